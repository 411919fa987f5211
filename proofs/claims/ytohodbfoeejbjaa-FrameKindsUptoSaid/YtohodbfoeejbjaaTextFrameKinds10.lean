/- Frames of parcels, and a parcel read. -/
import Derived.Test.YtohodbfoeejbjaaTextFrameKinds9

set_option linter.unusedVariables false
set_option linter.unusedSimpArgs false
namespace Go.Ev.P
open Go.Proofs
theorem wrapped_eq (k : Int) (s : List UInt8) (e : Int) : (bif e != (0 : Int) then (([] : List UInt8), e) else ((wrapF k s).1, (wrapF k s).2)) = wrappedF k s e := by
  unfold wrappedF
  cases e != (0 : Int) <;> rfl
def rfackC : Ctr := fackC
theorem rfack_ok : CtrOK Try.prog 54 rfackC :=
  fun_ok (G := rfackG) (Λ := []) tysOK (ctrs_cons rabytes_ok (ctrs_cons rwrap_ok ctrs_nil)) mixed (by kernel_rfl) (by kernel_rfl) (by kernel_rfl) (by kernel_rfl) lp_nil fun (x : DAck) hw _ => by
    show (evFn (mkC tys rfackG []) (fnOf Try.prog 54) (resL fackC.args x) fackC.res).holds (fun y => y = wrappedF 3 (ackF x).1 (ackF x).2)
    rw [congrFun rfack_tree x, ← wrapped_eq]
    simp only [Tree.holds]
    exact ⟨fun h => by rw [h]; rfl, fun h => by rw [h]; rfl⟩
def fparcelC : Ctr := { args := [gParcel], res := [.str, .int .i64], pre := none, fn := fun (x : DParcel) => (wrappedF 4 (parcelF x).1 (parcelF x).2) }
def fparcelG : List (Nat × Ctr) := [(103, prbytesC), (97, wrappedC)]
theorem fparcel_tree : (fun x : DParcel => evFn (mkC tys fparcelG []) (fnOf Try.prog 55) (resL fparcelC.args x) fparcelC.res) =
  (fun x => Tree.leaf ((wrappedF (4 : Int) (parcelF x).1 (parcelF x).2).1, (wrappedF (4 : Int) (parcelF x).1 (parcelF x).2).2)) := by kernel_rfl
theorem fparcel_ok : CtrOK Try.prog 55 fparcelC :=
  fun_ok (G := fparcelG) (Λ := []) tysOK (ctrs_cons prbytes_ok (ctrs_cons wrapped_ok ctrs_nil)) mixed (by kernel_rfl) (by kernel_rfl) (by kernel_rfl) (by kernel_rfl) lp_nil fun (x : DParcel) hw _ => by
    rw [congrFun fparcel_tree x]
    exact holds_val (d := fparcelC.fn x) (by kernel_rfl) (by simp [Tree.safe])
def rfparcelG : List (Nat × Ctr) := [(104, rprbytesC), (45, rwrapC)]
theorem rfparcelG_ok : CtrsOK Try.prog (fun f => lk f rfparcelG) := (ctrs_cons rprbytes_ok (ctrs_cons rwrap_ok ctrs_nil))
theorem rfparcel_tree : (fun x : DParcel => evFn (mkC tys rfparcelG []) (fnOf Try.prog 56) (resL fparcelC.args x) fparcelC.res) =
  (fun x => Tree.br ((parcelF x).2 != (0 : Int)) (Tree.leaf ([], (parcelF x).2)) (Tree.leaf ((wrapF (4 : Int) (parcelF x).1).1, (wrapF (4 : Int) (parcelF x).1).2))) := by kernel_rfl
def rfparcelC : Ctr := fparcelC
theorem rfparcel_ok : CtrOK Try.prog 56 rfparcelC :=
  fun_ok (G := rfparcelG) (Λ := []) tysOK rfparcelG_ok mixed (by kernel_rfl) (by kernel_rfl) (by kernel_rfl) (by kernel_rfl) lp_nil fun (x : DParcel) hw _ => by
    show (evFn (mkC tys rfparcelG []) (fnOf Try.prog 56) (resL fparcelC.args x) fparcelC.res).holds (fun y => y = wrappedF 4 (parcelF x).1 (parcelF x).2)
    rw [congrFun rfparcel_tree x, ← wrapped_eq]
    simp only [Tree.holds]
    exact ⟨fun h => by rw [h]; rfl, fun h => by rw [h]; rfl⟩
def rfhelloG : List (Nat × Ctr) := [(98, r6bytesC), (45, rwrapC)]
theorem rfhelloG_ok : CtrsOK Try.prog (fun f => lk f rfhelloG) := (ctrs_cons r6bytes_ok (ctrs_cons rwrap_ok ctrs_nil))
def rfhelloC : Ctr := { args := [gHello], res := [.str, .int .i64], pre := none, fn := fun (x : DHello) => wrappedF 1 (helloF x).1 (helloF x).2 }
theorem rfhello_tree : (fun x : DHello => evFn (mkC tys rfhelloG []) (fnOf Try.prog 50) (resL rfhelloC.args x) rfhelloC.res) =
  (fun x => Tree.br ((helloF x).2 != (0 : Int)) (Tree.leaf ([], (helloF x).2)) (Tree.leaf ((wrapF (1 : Int) (helloF x).1).1, (wrapF (1 : Int) (helloF x).1).2))) := by kernel_rfl
theorem rfhello_ok : CtrOK Try.prog 50 rfhelloC :=
  fun_ok (G := rfhelloG) (Λ := []) tysOK rfhelloG_ok mixed (by kernel_rfl) (by kernel_rfl) (by kernel_rfl) (by kernel_rfl) lp_nil fun (x : DHello) hw _ => by
    show (evFn (mkC tys rfhelloG []) (fnOf Try.prog 50) (resL rfhelloC.args x) rfhelloC.res).holds (fun y => y = wrappedF 1 (helloF x).1 (helloF x).2)
    rw [congrFun rfhello_tree x, ← wrapped_eq]
    simp only [Tree.holds]
    exact ⟨fun h => by rw [h]; rfl, fun h => by rw [h]; rfl⟩
def prestC : Ctr := { args := [.str], res := [.int .i64], pre := none, fn := fun (x : List UInt8) => (bif decide ((x.length : Int) > 0) then (3 : Int) else 0) }
def prestG : List (Nat × Ctr) := []
theorem prest_tree : (fun x : List UInt8 => evFn (mkC tys prestG []) (fnOf Try.prog 106) (resL prestC.args x) prestC.res) =
  (fun x => Tree.br (decide ((↑(List.length x) : Int) > (0 : Int))) (Tree.leaf (3 : Int)) (Tree.leaf (0 : Int))) := by kernel_rfl
theorem prest_ok : CtrOK Try.prog 106 prestC :=
  fun_ok (G := prestG) (Λ := []) tysOK ctrs_nil mixed (by kernel_rfl) (by kernel_rfl) (by kernel_rfl) (by kernel_rfl) lp_nil fun (x : List UInt8) hw _ => by
    rw [congrFun prest_tree x]
    exact holds_val (d := prestC.fn x) (by kernel_rfl) (by simp [Tree.safe])
def unblobG : List (Nat × Ctr) := [(71, takeC)]
theorem unblobG_ok : CtrsOK Try.prog (fun f => lk f unblobG) := (ctrs_cons take_ok ctrs_nil)
def unblobC : Ctr := { args := [.str], res := [.str, .str, .int .i64], pre := none, fn := fun (x : List UInt8) => unblobF x }
theorem unblob_tree : (fun x : List UInt8 => evFn (mkC tys unblobG []) (fnOf Try.prog 105) (resL unblobC.args x) unblobC.res) =
  (fun x =>
    Tree.br ((takeF x (1 : Int)).2.2 != (0 : Int)) (Tree.leaf ([], [], (takeF x (1 : Int)).2.2))
      (Tree.br (decide (IntKind.wrap IntKind.u64 (↑(List.length (takeF x (1 : Int)).2.1) : Int) < (takeF x (1 : Int)).1)) (Tree.leaf ([], [], (2 : Int)))
        (Tree.need ((0 : Int) ≤ (takeF x (1 : Int)).1 ∧ (takeF x (1 : Int)).1 ≤ (↑(List.length (takeF x (1 : Int)).2.1) : Int))
          (Tree.need ((0 : Int) ≤ (takeF x (1 : Int)).1 ∧ (takeF x (1 : Int)).1 ≤ (↑(List.length (takeF x (1 : Int)).2.1) : Int))
            (Tree.leaf (List.take (Int.toNat (takeF x (1 : Int)).1) (takeF x (1 : Int)).2.1, List.drop (Int.toNat (takeF x (1 : Int)).1) (takeF x (1 : Int)).2.1, (0 : Int))))))) := by kernel_rfl
theorem take_one (s : List UInt8) : takeF s 1 = bif decide ((s.length : Int) < 1) then (0, [], 2) else ((bigN (s.take 1) : Int), s.drop 1, 0) := by
  unfold takeF
  rfl
theorem unblob_ok : CtrOK Try.prog 105 unblobC :=
  fun_ok (G := unblobG) (Λ := []) tysOK unblobG_ok mixed (by kernel_rfl) (by kernel_rfl) (by kernel_rfl) (by kernel_rfl) lp_nil fun (x : List UInt8) hw _ => by
    show (evFn (mkC tys unblobG []) (fnOf Try.prog 105) (resL unblobC.args x) unblobC.res).holds (fun y => y = unblobF x)
    rw [congrFun unblob_tree x, take_one]
    have hx : x.length ≤ 4611686018427387904 := hw
    unfold unblobF
    cases hl : decide ((x.length : Int) < 1) with
    | true => simp only [cond_true, Tree.holds]; exact ⟨fun _ => trivial, fun h => (by cases h)⟩
    | false =>
      simp only [cond_false, Tree.holds]
      have e : IntKind.wrap IntKind.u64 ((x.drop 1).length : Int) = ((x.drop 1).length : Int) := u64_id (by omega) (by rw [List.length_drop]; omega)
      refine ⟨fun h => (by cases h), fun _ => ⟨fun h => ?_, fun h => ?_⟩⟩
      · have h' : ((x.drop 1).length : Int) < (bigN (x.take 1) : Int) := by
          have h2 := of_decide_eq_true h
          rw [e] at h2
          exact h2
        rw [decide_eq_true h']; rfl
      · have h' : ¬ ((x.drop 1).length : Int) < (bigN (x.take 1) : Int) := by
          have h2 := of_decide_eq_false h
          rw [e] at h2
          exact h2
        rw [decide_eq_false h']
        refine ⟨⟨by omega, by omega⟩, ⟨by omega, by omega⟩, ?_⟩
        rw [Int.toNat_natCast]; rfl
end Go.Ev.P
/- The document's parts, in bytes. -/
set_option linter.unusedVariables false
set_option linter.unusedSimpArgs false
namespace Go.Ev.P
open Go.Proofs
def rallG : List (Nat × Ctr) := [(173, ribytesC)]
theorem rallG_ok : CtrsOK Try.prog (fun f => lk f rallG) := (ctrs_cons ribytes_ok ctrs_nil)
def rallD : LoopD where
  prom := []
  ts := [(2, .val .str), (3, .val (.int .i64)), (4, .val .str), (9, .val (.sl gItem)), (10, .val (.int .i64)), (11, .val (.int .i64))]
  bs := []
  pre := fun (x : AlS) => alPre x
  out := fun (x : AlS) => out2 0 (runF alStp (alMu x + 1) x)
theorem rall_round : (fun x : AlS => roundOf (mkC tys rallG [(0, rallD.spec)]) rallD (loopB 0 (bodyOf (fnOf Try.prog 143))) x) =
  (fun x =>
    Tree.br (decide (x.1.2.2.2.2.2.1 < x.1.2.2.2.2.1))
      (Tree.need ((0 : Int) ≤ x.1.2.2.2.2.2.1 ∧ x.1.2.2.2.2.2.1 < (↑(List.length x.1.2.2.2.1) : Int))
        (Tree.br ((itemF (List.getD x.1.2.2.2.1 (Int.toNat x.1.2.2.2.2.2.1) ((0 : Int), (0 : Int), (0 : Int), (0 : Int)))).2 != (0 : Int))
          (Tree.leaf
            (Ex.ret,
              some (([], (itemF (List.getD x.1.2.2.2.1 (Int.toNat x.1.2.2.2.2.2.1) ((0 : Int), (0 : Int), (0 : Int), (0 : Int)))).2, x.1.2.2.1, x.1.2.2.2.1, x.1.2.2.2.2.1, x.1.2.2.2.2.2.1, ()), ())))
          (Tree.br (decide (x.1.2.2.2.2.2.1 ≥ (48 : Int))) (Tree.leaf (Ex.ret, some (([], (4 : Int), x.1.2.2.1, x.1.2.2.2.1, x.1.2.2.2.2.1, x.1.2.2.2.2.2.1, ()), ())))
            (Tree.need (List.length x.1.2.2.1 + List.length (itemF (List.getD x.1.2.2.2.1 (Int.toNat x.1.2.2.2.2.2.1) ((0 : Int), (0 : Int), (0 : Int), (0 : Int)))).1 ≤ (4611686018427387904 : Nat))
              (Tree.leaf
                (Ex.normal,
                  some
                    ((x.1.1, x.1.2.1, x.1.2.2.1 ++ (itemF (List.getD x.1.2.2.2.1 (Int.toNat x.1.2.2.2.2.2.1) ((0 : Int), (0 : Int), (0 : Int), (0 : Int)))).1, x.1.2.2.2.1, x.1.2.2.2.2.1,
                        IntKind.wrap IntKind.i64 (x.1.2.2.2.2.2.1 + (1 : Int)), ()),
                      ())))))))
      (Tree.leaf (Ex.exit (0 : Nat), some ((x.1.1, x.1.2.1, x.1.2.2.1, x.1.2.2.2.1, x.1.2.2.2.2.1, x.1.2.2.2.2.2.1, ()), ())))) := by kernel_rfl
def rallC : Ctr := { args := [.sl gItem], res := [.str, .int .i64], pre := none, fn := fun (x : List DItem) => allF x }
theorem rall_tree : (fun x : List DItem => evFn (mkC tys rallG [(0, rallD.spec)]) (fnOf Try.prog 143) (resL rallC.args x) rallC.res) =
  (fun x =>
    Tree.need (alPre (([], (0 : Int), [], x, (↑(List.length x) : Int), (0 : Int), PUnit.unit), PUnit.unit))
      (Tree.br
        (isRet
          (runF alStp (alMu (([], (0 : Int), [], x, (↑(List.length x) : Int), (0 : Int), PUnit.unit), PUnit.unit) + (1 : Nat))
              (([], (0 : Int), [], x, (↑(List.length x) : Int), (0 : Int), PUnit.unit), PUnit.unit)).1)
        (Tree.leaf
          ((runF alStp (alMu (([], (0 : Int), [], x, (↑(List.length x) : Int), (0 : Int), PUnit.unit), PUnit.unit) + (1 : Nat))
                    (([], (0 : Int), [], x, (↑(List.length x) : Int), (0 : Int), PUnit.unit), PUnit.unit)).2.1.1,
            (runF alStp (alMu (([], (0 : Int), [], x, (↑(List.length x) : Int), (0 : Int), PUnit.unit), PUnit.unit) + (1 : Nat))
                      (([], (0 : Int), [], x, (↑(List.length x) : Int), (0 : Int), PUnit.unit), PUnit.unit)).2.1.2.1))
        (Tree.leaf
          ((runF alStp (alMu (([], (0 : Int), [], x, (↑(List.length x) : Int), (0 : Int), PUnit.unit), PUnit.unit) + (1 : Nat))
                        (([], (0 : Int), [], x, (↑(List.length x) : Int), (0 : Int), PUnit.unit), PUnit.unit)).2.1.2.2.1,
            (0 : Int))))) := by kernel_rfl
theorem rall_loop : LoopOK (mkC tys rallG [(0, rallD.spec)]) rallD.spec (loopB 0 (bodyOf (fnOf Try.prog 143))) :=
  loopF2_ok (id := 0) (D := rallD) (fun x => congrFun rall_round x) alStp alMu (fun _ => rfl) alStp_ends fun (x : AlS) hp => by
    refine ⟨?_, fun hn => al_go hp hn⟩
    obtain ⟨⟨a, b, o, l, n, i, ⟨⟩⟩, ⟨⟩⟩ := x
    obtain ⟨h1, h2, h3, h4, h5⟩ := hp
    simp only at h1 h2 h3 h4 h5
    have ei : IntKind.wrap IntKind.i64 (i + 1) = i + 1 := i64_id (by omega) (by omega)
    have hb := itemF_len (l.getD i.toNat (0, 0, 0, 0))
    simp only [Tree.holds, alStp]
    rw [ei]
    refine ⟨fun h => ?_, fun h => by rw [h]; rfl⟩
    have hlt := of_decide_eq_true h
    refine ⟨⟨h1, by omega⟩, fun h6 => by rw [h, h6]; rfl, fun h6 => ⟨fun h7 => by rw [h, h6, h7]; rfl, fun h7 => ⟨by omega, by rw [h, h6, h7]; rfl⟩⟩⟩
theorem rall_ok : CtrOK Try.prog 143 rallC :=
  fun_ok (G := rallG) (Λ := [(0, rallD.spec)]) tysOK rallG_ok mixed (by kernel_rfl) (by kernel_rfl) (by kernel_rfl) (by kernel_rfl) (lp_cons rall_loop lp_nil) fun (x : List DItem) hw _ => by
    show (evFn (mkC tys rallG [(0, rallD.spec)]) (fnOf Try.prog 143) (resL rallC.args x) rallC.res).holds (fun y => y = allG [] 0 x)
    rw [congrFun rall_tree x]
    have hp : alPre ((([] : List UInt8), (0 : Int), ([] : List UInt8), x, (x.length : Int), (0 : Int), PUnit.unit), PUnit.unit) := ⟨Int.le_refl _, by show (0 : Int) ≤ (x.length : Int); omega, rfl, by show (0 : Int) ≤ 48; decide, Int.le_refl _⟩
    have key := als_all _ _ hp (Nat.lt_succ_self _)
    simp only [Tree.holds]
    exact ⟨hp, fun h => key.1 h, fun h => key.2 h⟩
def rpok8G : List (Nat × Ctr) := [(143, rallC), (83, rrightC)]
theorem rpok8G_ok : CtrsOK Try.prog (fun f => lk f rpok8G) := (ctrs_cons rall_ok (ctrs_cons rright_ok ctrs_nil))
def rpok8C : Ctr := { args := [gPart], res := [.bool], pre := none, fn := fun (x : DPart) => pokF x }
theorem rpok8_tree : (fun x : DPart => evFn (mkC tys rpok8G []) (fnOf Try.prog 142) (resL rpok8C.args x) rpok8C.res) =
  (fun x =>
    Tree.leaf
      (bif
          bif bif bif (allF x.2.2.2.2).2 == (0 : Int) then decide ((↑(List.length (allF x.2.2.2.2).1) : Int) ≤ (40 : Int)) else false then rightF x.1 else false then decide (x.2.2.1 ≥ (0 : Int))
          else false then
        decide (x.2.2.1 ≤ (65535 : Int))
      else false)) := by kernel_rfl
def r8bytesC : Ctr := { args := [gPart], res := [.str, .int .i64], pre := none, fn := fun (x : DPart) => partF x }
def r8bytesG : List (Nat × Ctr) := [(142, rpok8C), (143, rallC), (93, rnumC), (139, r5bytesC)]
theorem r8bytes_tree : (fun x : DPart => evFn (mkC tys r8bytesG []) (fnOf Try.prog 100) (resL r8bytesC.args x) r8bytesC.res) =
  (fun x =>
    Tree.br (!pokF x) (Tree.leaf ([], (1 : Int)))
      (Tree.need (List.length (numF (IntKind.wrap IntKind.u64 x.1) (1 : Int)) + List.length (pairB x.2.1) ≤ (4611686018427387904 : Nat))
        (Tree.need (List.length (numF (IntKind.wrap IntKind.u64 x.1) (1 : Int) ++ pairB x.2.1) + List.length (numF (IntKind.wrap IntKind.u64 x.2.2.1) (2 : Int)) ≤ (4611686018427387904 : Nat))
          (Tree.need
            (List.length (numF (IntKind.wrap IntKind.u64 x.1) (1 : Int) ++ pairB x.2.1 ++ numF (IntKind.wrap IntKind.u64 x.2.2.1) (2 : Int)) +
                List.length (numF (bif x.2.2.2.1 then (1 : Int) else (0 : Int)) (1 : Int)) ≤
              (4611686018427387904 : Nat))
            (Tree.need
              (List.length
                    (numF (IntKind.wrap IntKind.u64 x.1) (1 : Int) ++ pairB x.2.1 ++ numF (IntKind.wrap IntKind.u64 x.2.2.1) (2 : Int) ++ numF (bif x.2.2.2.1 then (1 : Int) else (0 : Int)) (1 : Int)) +
                  List.length (allF x.2.2.2.2).1 ≤
                (4611686018427387904 : Nat))
              (Tree.leaf
                (numF (IntKind.wrap IntKind.u64 x.1) (1 : Int) ++ pairB x.2.1 ++ numF (IntKind.wrap IntKind.u64 x.2.2.1) (2 : Int) ++ numF (bif x.2.2.2.1 then (1 : Int) else (0 : Int)) (1 : Int) ++
                    (allF x.2.2.2.2).1,
                  (0 : Int)))))))) := by kernel_rfl
theorem rpok8_ok : CtrOK Try.prog 142 rpok8C :=
  fun_ok (G := rpok8G) (Λ := []) tysOK rpok8G_ok mixed (by kernel_rfl) (by kernel_rfl) (by kernel_rfl) (by kernel_rfl) lp_nil fun (x : DPart) hw _ => by
    rw [congrFun rpok8_tree x]
    exact holds_val (d := rpok8C.fn x) (by kernel_rfl) (by simp [Tree.safe])
theorem r8bytes_ok : CtrOK Try.prog 100 r8bytesC :=
  fun_ok (G := r8bytesG) (Λ := []) tysOK (ctrs_cons rpok8_ok (ctrs_cons rall_ok (ctrs_cons rnum_ok (ctrs_cons r5bytes_ok ctrs_nil)))) mixed (by kernel_rfl) (by kernel_rfl) (by kernel_rfl) (by kernel_rfl) lp_nil fun (x : DPart) hw _ => by
    rw [congrFun r8bytes_tree x]
    have e : r8bytesC.fn x = partF x := rfl
    have hb := allF_len x.2.2.2.2
    rw [e]
    simp only [Tree.holds, partF]
    refine ⟨fun h => by rw [h]; rfl, fun h => ⟨?_, ?_, ?_, ?_, by rw [h]; rfl⟩⟩
    all_goals simp only [List.length_append, numF_len1, numF_len2, pairB_len]
    all_goals omega
def rfpartC : Ctr := fpartC
def rfpartG : List (Nat × Ctr) := [(100, r8bytesC), (45, rwrapC)]
theorem rfpart_tree : (fun x : DPart => evFn (mkC tys rfpartG []) (fnOf Try.prog 52) (resL fpartC.args x) fpartC.res) =
  (fun x => Tree.br ((partF x).2 != (0 : Int)) (Tree.leaf ([], (partF x).2)) (Tree.leaf ((wrapF (2 : Int) (partF x).1).1, (wrapF (2 : Int) (partF x).1).2))) := by kernel_rfl
theorem rfpart_ok : CtrOK Try.prog 52 rfpartC :=
  fun_ok (G := rfpartG) (Λ := []) tysOK (ctrs_cons r8bytes_ok (ctrs_cons rwrap_ok ctrs_nil)) mixed (by kernel_rfl) (by kernel_rfl) (by kernel_rfl) (by kernel_rfl) lp_nil fun (x : DPart) hw _ => by
    show (evFn (mkC tys rfpartG []) (fnOf Try.prog 52) (resL fpartC.args x) fpartC.res).holds (fun y => y = wrappedF 2 (partF x).1 (partF x).2)
    rw [congrFun rfpart_tree x, ← wrapped_eq]
    simp only [Tree.holds]
    exact ⟨fun h => by rw [h]; rfl, fun h => by rw [h]; rfl⟩
end Go.Ev.P
/- A parcel read. -/
set_option linter.unusedVariables false
set_option linter.unusedSimpArgs false
namespace Go.Ev.P
open Go.Proofs
def preadG : List (Nat × Ctr) := [(105, unblobC), (27, readC), (106, prestC), (34, prightC)]
theorem pread_tree : (fun x : List UInt8 => evFn (mkC tys preadG []) (fnOf Try.prog 57) (resL [.str] x) [gParcel, .int .i64]) =
  (fun x =>
    Tree.br (decide ((↑(List.length x) : Int) < (20 : Int))) (Tree.leaf (((0 : Int), (((0 : Int), (0 : Int)), (0 : Int), (0 : Int)), (0 : Int), (0 : Int), (0 : Int), []), (2 : Int)))
      (Tree.need ((0 : Int) ≤ (19 : Int) ∧ (19 : Int) ≤ (↑(List.length x) : Int))
        (Tree.br ((unblobF (List.drop (19 : Nat) x)).2.2 != (0 : Int))
          (Tree.leaf (((0 : Int), (((0 : Int), (0 : Int)), (0 : Int), (0 : Int)), (0 : Int), (0 : Int), (0 : Int), []), (unblobF (List.drop (19 : Nat) x)).2.2))
          (Tree.need ((0 : Int) ≤ (1 : Int) ∧ (1 : Int) ≤ (19 : Int) ∧ (19 : Int) ≤ (↑(List.length x) : Int))
            (Tree.br ((readF (List.drop (1 : Nat) (List.take (19 : Nat) x))).2.2 != (0 : Int))
              (Tree.leaf (((0 : Int), (((0 : Int), (0 : Int)), (0 : Int), (0 : Int)), (0 : Int), (0 : Int), (0 : Int), []), (readF (List.drop (1 : Nat) (List.take (19 : Nat) x))).2.2))
              (Tree.need ((0 : Int) ≤ (0 : Int) ∧ (0 : Int) < (↑(List.length (readF (List.drop (1 : Nat) (List.take (19 : Nat) x))).2.1) : Int))
                (Tree.need ((0 : Int) ≤ (1 : Int) ∧ (1 : Int) < (↑(List.length (readF (List.drop (1 : Nat) (List.take (19 : Nat) x))).2.1) : Int))
                  (Tree.need ((0 : Int) ≤ (0 : Int) ∧ (0 : Int) < (↑(List.length x) : Int))
                    (Tree.br
                      (bif (bif decide ((↑(List.length (unblobF (List.drop (19 : Nat) x)).2.1) : Int) > (0 : Int)) then (3 : Int) else (0 : Int)) != (0 : Int) then true
                      else
                        !prightF
                            (IntKind.wrap IntKind.i64 (↑(UInt8.toNat (List.getD x (0 : Nat) (0 : UInt8))) : Int), (readF (List.drop (1 : Nat) (List.take (19 : Nat) x))).1,
                              IntKind.wrap IntKind.i64
                                (Int.tdiv (IntKind.wrap IntKind.i64 (↑(UInt8.toNat (List.getD (readF (List.drop (1 : Nat) (List.take (19 : Nat) x))).2.1 (0 : Nat) (0 : UInt8))) : Int)) (16 : Int)),
                              Int.tmod (IntKind.wrap IntKind.i64 (↑(UInt8.toNat (List.getD (readF (List.drop (1 : Nat) (List.take (19 : Nat) x))).2.1 (0 : Nat) (0 : UInt8))) : Int)) (16 : Int),
                              IntKind.wrap IntKind.i64 (↑(UInt8.toNat (List.getD (readF (List.drop (1 : Nat) (List.take (19 : Nat) x))).2.1 (1 : Nat) (0 : UInt8))) : Int),
                              (unblobF (List.drop (19 : Nat) x)).1))
                      (Tree.leaf (((0 : Int), (((0 : Int), (0 : Int)), (0 : Int), (0 : Int)), (0 : Int), (0 : Int), (0 : Int), []), (3 : Int)))
                      (Tree.leaf
                        ((IntKind.wrap IntKind.i64 (↑(UInt8.toNat (List.getD x (0 : Nat) (0 : UInt8))) : Int), (readF (List.drop (1 : Nat) (List.take (19 : Nat) x))).1,
                            IntKind.wrap IntKind.i64
                              (Int.tdiv (IntKind.wrap IntKind.i64 (↑(UInt8.toNat (List.getD (readF (List.drop (1 : Nat) (List.take (19 : Nat) x))).2.1 (0 : Nat) (0 : UInt8))) : Int)) (16 : Int)),
                            Int.tmod (IntKind.wrap IntKind.i64 (↑(UInt8.toNat (List.getD (readF (List.drop (1 : Nat) (List.take (19 : Nat) x))).2.1 (0 : Nat) (0 : UInt8))) : Int)) (16 : Int),
                            IntKind.wrap IntKind.i64 (↑(UInt8.toNat (List.getD (readF (List.drop (1 : Nat) (List.take (19 : Nat) x))).2.1 (1 : Nat) (0 : UInt8))) : Int),
                            (unblobF (List.drop (19 : Nat) x)).1),
                          (0 : Int)))))))))))) := by kernel_rfl
def preadC : Ctr := { args := [.str], res := [gParcel, .int .i64], pre := none, fn := fun (x : List UInt8) => preadF x }
theorem pread_ok : CtrOK Try.prog 57 preadC :=
  fun_ok (G := preadG) (Λ := []) tysOK (ctrs_cons unblob_ok (ctrs_cons read_ok (ctrs_cons prest_ok (ctrs_cons pright_ok ctrs_nil)))) mixed (by kernel_rfl) (by kernel_rfl) (by kernel_rfl) (by kernel_rfl) lp_nil fun (x : List UInt8) hw _ => by
    show (evFn (mkC tys preadG []) (fnOf Try.prog 57) (resL [.str] x) [gParcel, .int .i64]).holds (fun y => y = preadF x)
    rw [congrFun pread_tree x]
    simp only [Tree.holds]
    unfold preadF
    refine ⟨fun h => by rw [h]; rfl, fun h => ?_⟩
    have hl : 20 ≤ x.length := by have := of_decide_eq_false h; omega
    obtain ⟨m1, m2⟩ := mid_in hl
    have m2' : (readF (List.drop 1 (List.take 19 x))).2.1.length = 2 := m2
    rw [h]
    refine ⟨by omega, fun h2 => by rw [h2]; rfl, fun h2 => ?_⟩
    rw [h2]
    refine ⟨by omega, fun h3 => ?_, fun _ => ⟨by omega, by omega, by omega, fun h4 => ?_, fun h4 => ?_⟩⟩
    · exfalso
      have h3' : ((midF x).2.2 != (0 : Int)) = true := h3
      rw [m1] at h3'
      cases h3'
    · have h4' : pbadF x = true := h4
      rw [h4']; rfl
    · have h4' : pbadF x = false := h4
      rw [h4']; rfl
end Go.Ev.P
/- A hello in bytes; the law of frames, kind by kind. -/
set_option linter.unusedVariables false
set_option linter.unusedSimpArgs false
namespace Go.Ev.P
open Go.Proofs
def hbytesG : List (Nat × Ctr) := [(137, hokC), (28, bytesC)]
theorem hbytesG_ok : CtrsOK Try.prog (fun f => lk f hbytesG) := (ctrs_cons hok_ok (ctrs_cons bytes_ok ctrs_nil))
def hbytesC : Ctr := { args := [gHello], res := [.str, .int .i64], pre := none, fn := fun (x : DHello) => helloF x }
theorem hbytes_tree : (fun x : DHello => evFn (mkC tys hbytesG []) (fnOf Try.prog 96) (resL hbytesC.args x) hbytesC.res) =
  (fun x =>
    Tree.br (!hokF x) (Tree.leaf ([], (1 : Int)))
      (Tree.need ((0 : Int) ≤ (1 : Int) ∧ (1 : Int) < (17 : Int))
        (Tree.need ((1 : Nat) + List.length (pairB x.2) ≤ (17 : Nat))
          (Tree.need ((0 : Int) ≤ (0 : Int) ∧ (0 : Int) < (17 : Int))
            (Tree.leaf
              (bytesToStr
                  (List.drop (0 : Nat)
                    (List.take (1 : Nat)
                          [IntKind.wrap IntKind.u8 x.1, (0 : Int), (0 : Int), (0 : Int), (0 : Int), (0 : Int), (0 : Int), (0 : Int), (0 : Int), (0 : Int), (0 : Int), (0 : Int), (0 : Int), (0 : Int),
                            (0 : Int), (0 : Int), (0 : Int)] ++
                        strToBytes (pairB x.2) ++
                      List.drop ((1 : Nat) + List.length (pairB x.2))
                        [IntKind.wrap IntKind.u8 x.1, (0 : Int), (0 : Int), (0 : Int), (0 : Int), (0 : Int), (0 : Int), (0 : Int), (0 : Int), (0 : Int), (0 : Int), (0 : Int), (0 : Int), (0 : Int),
                          (0 : Int), (0 : Int), (0 : Int)])),
                (0 : Int))))))) := by kernel_rfl
theorem bytes_back : ∀ s : List UInt8, bytesToStr (strToBytes s) = s
  | [] => rfl
  | b :: s => by
    have := bytes_back s
    show UInt8.ofNat ((b.toNat : Int).toNat) :: bytesToStr (strToBytes s) = _
    rw [this]
    simp
theorem hok_in {h : DHello} (hk : hokF h = true) : 0 ≤ h.1 ∧ h.1 < 16 := by
  unfold hokF at hk
  cases hr : rightF h.1 with
  | true => exact rightF_iff.1 hr
  | false => rw [hr] at hk; cases hk
theorem hello_parts {h : DHello} (hk : hokF h = true) : bytesToStr ([IntKind.wrap IntKind.u8 h.1] ++ strToBytes (pairB h.2)) = helloB h := by
  obtain ⟨h0, h1⟩ := hok_in hk
  unfold helloB
  rw [u64_id h0 (by omega), num_one h0 (by omega), wrap_u8]
  show UInt8.ofNat (h.1 % 256).toNat :: bytesToStr (strToBytes (pairB h.2)) = _
  rw [bytes_back, Int.emod_eq_of_lt h0 (by omega)]
  rfl
theorem hbytes_ok : CtrOK Try.prog 96 hbytesC :=
  fun_ok (G := hbytesG) (Λ := []) tysOK hbytesG_ok mixed (by kernel_rfl) (by kernel_rfl) (by kernel_rfl) (by kernel_rfl) lp_nil fun (x : DHello) hw _ => by
    show (evFn (mkC tys hbytesG []) (fnOf Try.prog 96) (resL hbytesC.args x) hbytesC.res).holds (fun y => y = helloF x)
    rw [congrFun hbytes_tree x]
    simp only [Tree.holds, helloF]
    refine ⟨fun h => by rw [h]; rfl, fun h => ⟨by omega, by rw [pairB_len]; omega, by omega, ?_⟩⟩
    have hk : hokF x = true := by cases hq : hokF x <;> rw [hq] at h <;> first | rfl | cases h
    rw [hk, ← hello_parts hk, pairB_len]
    simp only [List.drop_zero, Bool.not_true, cond_false]
    rfl
def fhelloC : Ctr := { args := [gHello], res := [.str, .int .i64], pre := none, fn := fun (x : DHello) => (wrappedF 1 (helloF x).1 (helloF x).2) }
def fhelloG : List (Nat × Ctr) := [(96, hbytesC), (97, wrappedC)]
theorem fhello_tree : (fun x : DHello => evFn (mkC tys fhelloG []) (fnOf Try.prog 49) (resL fhelloC.args x) fhelloC.res) =
  (fun x => Tree.leaf ((wrappedF (1 : Int) (helloF x).1 (helloF x).2).1, (wrappedF (1 : Int) (helloF x).1 (helloF x).2).2)) := by kernel_rfl
theorem fhello_ok : CtrOK Try.prog 49 fhelloC :=
  fun_ok (G := fhelloG) (Λ := []) tysOK (ctrs_cons hbytes_ok (ctrs_cons wrapped_ok ctrs_nil)) mixed (by kernel_rfl) (by kernel_rfl) (by kernel_rfl) (by kernel_rfl) lp_nil fun (x : DHello) hw _ => by
    rw [congrFun fhello_tree x]
    exact holds_val (d := fhelloC.fn x) (by kernel_rfl) (by simp [Tree.safe])
def klongC : Ctr := { args := [gPart], res := [.bool], pre := none, fn := fun (x : DPart) => decide ((x.2.2.2.2.length : Int) > 100) }
def klongG : List (Nat × Ctr) := []
theorem klong_tree : (fun x : DPart => evFn (mkC tys klongG []) (fnOf Try.prog 48) (resL klongC.args x) klongC.res) =
  (fun x => Tree.leaf (decide ((↑(List.length x.2.2.2.2) : Int) > (100 : Int)))) := by kernel_rfl
theorem klong_ok : CtrOK Try.prog 48 klongC :=
  fun_ok (G := klongG) (Λ := []) tysOK ctrs_nil mixed (by kernel_rfl) (by kernel_rfl) (by kernel_rfl) (by kernel_rfl) lp_nil fun (x : DPart) hw _ => by
    rw [congrFun klong_tree x]
    exact holds_val (d := klongC.fn x) (by kernel_rfl) (by simp [Tree.safe])
def fkindsG : List (Nat × Ctr) := [(48, klongC), (43, awake11C), (49, fhelloC), (50, rfhelloC), (51, fpartC), (52, rfpartC), (53, fackC), (54, rfackC), (55, fparcelC), (56, rfparcelC), (46, fopenC), (57, preadC)]
theorem fkindsG_ok : CtrsOK Try.prog (fun f => lk f fkindsG) := (ctrs_cons klong_ok (ctrs_cons awake11_ok (ctrs_cons fhello_ok (ctrs_cons rfhello_ok (ctrs_cons fpart_ok (ctrs_cons rfpart_ok (ctrs_cons fack_ok (ctrs_cons rfack_ok (ctrs_cons fparcel_ok (ctrs_cons rfparcel_ok (ctrs_cons fopen_ok (ctrs_cons pread_ok ctrs_nil))))))))))))
abbrev DKinds := DHello × DPart × DAck × DParcel
def fkindsC : Ctr := { args := [gHello, gKinds], res := [.bool], pre := some (smallD [gHello, gKinds]), fn := fun _ => true }
theorem fkinds_tree : (fun x : DKinds => evFn (mkC tys fkindsG []) (fnOf Try.prog 11) (resL fkindsC.args x) fkindsC.res) =
  (fun x =>
    Tree.br (bif decide ((↑(List.length x.2.1.2.2.2.2) : Int) > (100 : Int)) then true else decide ((↑(List.length x.2.2.2.2.2.2.2.2) : Int) > (500 : Int))) (Tree.leaf true)
      (Tree.br
        (bif
            bif
                bif
                    bif
                        bif
                            bif
                                bif !(wrappedF (1 : Int) (helloF x.1).1 (helloF x.1).2).1 == (wrappedF (1 : Int) (helloF x.1).1 (helloF x.1).2).1 then true
                                else (wrappedF (1 : Int) (helloF x.1).1 (helloF x.1).2).2 != (wrappedF (1 : Int) (helloF x.1).1 (helloF x.1).2).2 then
                              true
                            else !(wrappedF (2 : Int) (partF x.2.1).1 (partF x.2.1).2).1 == (wrappedF (2 : Int) (partF x.2.1).1 (partF x.2.1).2).1 then
                          true
                        else (wrappedF (2 : Int) (partF x.2.1).1 (partF x.2.1).2).2 != (wrappedF (2 : Int) (partF x.2.1).1 (partF x.2.1).2).2 then
                      true
                    else !(wrappedF (3 : Int) (ackF x.2.2.1).1 (ackF x.2.2.1).2).1 == (wrappedF (3 : Int) (ackF x.2.2.1).1 (ackF x.2.2.1).2).1 then
                  true
                else (wrappedF (3 : Int) (ackF x.2.2.1).1 (ackF x.2.2.1).2).2 != (wrappedF (3 : Int) (ackF x.2.2.1).1 (ackF x.2.2.1).2).2 then
              true
            else !(wrappedF (4 : Int) (parcelF x.2.2.2).1 (parcelF x.2.2.2).2).1 == (wrappedF (4 : Int) (parcelF x.2.2.2).1 (parcelF x.2.2.2).2).1 then
          true
        else (wrappedF (4 : Int) (parcelF x.2.2.2).1 (parcelF x.2.2.2).2).2 != (wrappedF (4 : Int) (parcelF x.2.2.2).1 (parcelF x.2.2.2).2).2)
        (Tree.leaf false)
        (Tree.br ((wrappedF (4 : Int) (parcelF x.2.2.2).1 (parcelF x.2.2.2).2).2 == (0 : Int))
          (Tree.br
            (bif
                bif
                    bif (openF (wrappedF (4 : Int) (parcelF x.2.2.2).1 (parcelF x.2.2.2).2).1).2.2 != (0 : Int) then true
                    else (openF (wrappedF (4 : Int) (parcelF x.2.2.2).1 (parcelF x.2.2.2).2).1).1 != (4 : Int) then
                  true
                else (preadF (openF (wrappedF (4 : Int) (parcelF x.2.2.2).1 (parcelF x.2.2.2).2).1).2.1).2 != (0 : Int) then
              true
            else
              !geq
                  (GTy.prod (GTy.int IntKind.i64)
                    (GTy.prod (GTy.prod (GTy.prod (GTy.int IntKind.u32) (GTy.int IntKind.u32)) (GTy.prod (GTy.int IntKind.u32) (GTy.int IntKind.u32)))
                      (GTy.prod (GTy.int IntKind.i64) (GTy.prod (GTy.int IntKind.i64) (GTy.prod (GTy.int IntKind.i64) GTy.str)))))
                  (preadF (openF (wrappedF (4 : Int) (parcelF x.2.2.2).1 (parcelF x.2.2.2).2).1).2.1).1 x.2.2.2)
            (Tree.leaf false) (Tree.leaf true))
          (Tree.leaf true)))) := by kernel_rfl
theorem parcelB_len {p : DParcel} (h : prightF p = true) : (parcelB p).length ≤ 250 := by
  have := pright_body h
  unfold parcelB
  simp only [List.length_append, numF_len1, pairB_len]
  omega
theorem fkinds_ok : CtrOK Try.prog 11 fkindsC :=
  fun_ok (G := fkindsG) (Λ := []) tysOK fkindsG_ok mixed (by kernel_rfl) (by kernel_rfl) (by kernel_rfl) (by kernel_rfl) lp_nil fun (x : DKinds) hw _ => by
    rw [congrFun fkinds_tree x]
    simp only [Tree.holds]
    refine ⟨fun _ => rfl, fun _ => ⟨fun h => ?_, fun _ => ⟨fun h => ⟨fun h2 => ?_, fun _ => rfl⟩, fun _ => rfl⟩⟩⟩
    · exfalso
      simp at h
    · exfalso
      have hp : prightF x.2.2.2 = true := by
        cases hq : prightF x.2.2.2 with
        | true => rfl
        | false =>
          unfold parcelF wrappedF at h
          rw [hq] at h
          simp at h
      have e1 : parcelF x.2.2.2 = (parcelB x.2.2.2, 0) := by unfold parcelF; rw [hp]; rfl
      have e2 : wrappedF 4 (parcelF x.2.2.2).1 (parcelF x.2.2.2).2 = (sealF (frameT 4 (parcelB x.2.2.2)), 0) := by
        rw [e1]
        show wrapF 4 (parcelB x.2.2.2) = _
        exact wrap_in (by omega) (by omega) (parcelB_len hp)
      have e3 := open_in (k := 4) (by omega) (by omega) (parcelB_len hp)
      have e4 : preadF (parcelB x.2.2.2) = (x.2.2.2, 0) := parcel_back hw.2.2.2.2.1 hp
      have e5 := geq_self gParcel x.2.2.2 rfl
      rw [e2] at h2
      simp only at h2
      rw [e3] at h2
      simp only at h2
      rw [e4] at h2
      simp only at h2
      have h3 : (bif bif bif (0 : Int) != 0 then true else (4 : Int) != 4 then true else (0 : Int) != 0 then true else !geq gParcel x.2.2.2 x.2.2.2) = true := h2
      rw [e5] at h3
      simp at h3
end Go.Ev.P
