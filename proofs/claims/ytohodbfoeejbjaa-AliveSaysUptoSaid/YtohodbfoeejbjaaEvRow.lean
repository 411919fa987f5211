/- What a row reads, told in types. -/
import Derived.Test.YtohodbfoeejbjaaEvRun10
import Derived.Test.YtohodbfoeejbjaaEvWt
import Derived.Deep.Slices
import Derived.ChangeSame
import Derived.Carry
import Derived.RowKit3
import Derived.OpenShut
import Derived.ChangeCalls
set_option linter.unusedVariables false
set_option linter.unusedSimpArgs false
namespace Go.Ev
open Go.ChangeShapes Go.RowKit

mutual
def bulk {H : Type} : DataW H → Nat
  | .lit (.string bytes) => bytes.length + 1
  | .lit _ => 1
  | .nil => 1
  | .ptr d => bulk d + 1
  | .slice elems spare => bulkAll elems + bulkAll spare + 1
  | .agg parts => bulkAll parts + 1
  | .iface _ d => bulk d + 1
  | .map entries => bulkEntries entries + 1
  | .held _ => 1
def bulkAll {H : Type} : List (DataW H) → Nat
  | [] => 0
  | d :: r => bulk d + bulkAll r
def bulkEntries {H : Type} : List (Lit × DataW H) → Nat
  | [] => 0
  | x :: r => bulkEntry x + bulkEntries r
def bulkEntry {H : Type} : Lit × DataW H → Nat
  | (.string bytes, d) => bytes.length + bulk d + 1
  | (_, d) => bulk d + 1
end

theorem bulk_mem {H : Type} {d : DataW H} : ∀ {l : List (DataW H)}, d ∈ l → bulk d ≤ bulkAll l
  | [], h => by simp at h
  | x :: l, h => by
    simp only [bulkAll]
    rcases List.mem_cons.1 h with rfl | h
    · omega
    · have := bulk_mem h; omega

theorem bulk_pos {H : Type} : ∀ (d : DataW H), 1 ≤ bulk d := by
  intro d
  cases d with
  | lit l => cases l <;> simp [bulk]
  | _ => simp [bulk]

theorem bulk_len {H : Type} : ∀ (l : List (DataW H)), l.length ≤ bulkAll l
  | [] => by simp [bulkAll]
  | x :: l => by
    have := bulk_len l
    have := bulk_pos x
    simp only [bulkAll, List.length_cons]
    omega

abbrev allS (w : World) : Stab := fun b _ => b < w.heap.size

section
variable {P : Program} {τ : Tys} {w : World} {H : Type} {enc : TypeId × Value → H}

theorem cellsOf_eq (TOK : TysOK P τ) {t : TypeId} {i : TInfo} (hi : τ t = some i) : P.cellsOf t = ncell i.g := by
  obtain ⟨ti, h1, h2, _⟩ := (TOK t i hi).info
  simp [Program.cellsOf, h1, h2]

/-- A chain, out of its fields. -/
theorem chain_enc {S : Stab} : ∀ {n : Nat} {g : GTy} {cs : List Value}, Chain n g → cs.length = ncell g → (∀ k, k < n → ∃ h x, pathTy g (fieldPath n k) = some h ∧ Enc w S h x ((cs.drop (offs g (fieldPath n k))).take (ncell h)) ∧ small h x) → ∃ x, Enc w S g x cs ∧ small g x
  | 1, .prod a .unit, cs, _, hl, h => by
    obtain ⟨h', x, h1, h2, h3⟩ := h 0 (by omega)
    simp only [fieldPath, pathTy, Option.some.injEq] at h1
    subst h1
    simp only [fieldPath, offs, List.drop_zero] at h2
    simp only [ncell, Nat.add_zero] at hl
    rw [List.take_of_length_le (by omega)] at h2
    exact ⟨(x, ()), ⟨cs, [], by simp, h2, rfl⟩, h3, trivial⟩
  | 2, .prod a b, cs, _, hl, h => by
    obtain ⟨h0, x, p1, p2, p3⟩ := h 0 (by omega)
    obtain ⟨h1, y, q1, q2, q3⟩ := h 1 (by omega)
    simp only [fieldPath, pathTy, Option.some.injEq] at p1 q1
    subst p1
    subst q1
    simp only [fieldPath, offs, List.drop_zero, Nat.add_zero] at p2 q2
    simp only [ncell] at hl
    rw [List.take_of_length_le (by simp; omega)] at q2
    exact ⟨(x, y), ⟨_, _, (List.take_append_drop (ncell a) cs).symm, p2, q2⟩, p3, q3⟩
  | n + 3, .prod a b, cs, hc, hl, h => by
    obtain ⟨h0, x, p1, p2, p3⟩ := h 0 (by omega)
    simp only [fieldPath, pathTy, Option.some.injEq] at p1
    subst p1
    simp only [fieldPath, offs, List.drop_zero] at p2
    simp only [ncell] at hl
    obtain ⟨y, hy, hy'⟩ := chain_enc (n := n + 2) (g := b) (cs := cs.drop (ncell a)) hc (by simp; omega) (fun k hk => by
      obtain ⟨h', z, r1, r2, r3⟩ := h (k + 1) (by omega)
      refine ⟨h', z, ?_, ?_, r3⟩
      · simpa only [fieldPath, pathTy] using r1
      · simp only [fieldPath, offs] at r2
        rw [List.drop_drop]
        exact r2)
    exact ⟨(x, y), ⟨_, _, (List.take_append_drop (ncell a) cs).symm, p2, hy⟩, p3, hy'⟩
theorem mapM_get {α β : Type} {f : α → Option β} : ∀ {l : List α} {r : List β}, l.mapM f = some r → r.length = l.length ∧ ∀ (k : Nat) (a : α), l[k]? = some a → ∃ b, r[k]? = some b ∧ f a = some b
  | [], r, h => by
    simp at h
    subst h
    simp
  | a :: l, r, h => by
    rw [List.mapM_cons] at h
    cases ha : f a with
    | none => simp [ha] at h
    | some b =>
      cases hl : l.mapM f with
      | none => simp [ha, hl] at h
      | some r' =>
        simp [ha, hl] at h
        subst h
        obtain ⟨h1, h2⟩ := mapM_get hl
        refine ⟨by simp [h1], fun k x hk => ?_⟩
        cases k with
        | zero => simp at hk; subst hk; exact ⟨b, by simp, ha⟩
        | succ k => simpa using h2 k x (by simpa using hk)

/-- A row of n, out of its places. -/
theorem row_enc {S : Stab} {g : GTy} : ∀ (n : Nat) {cs : List Value}, cs.length = n * ncell g → (∀ k, k < n → ∃ x, Enc w S g x ((cs.drop (k * ncell g)).take (ncell g)) ∧ small g x) → ∃ xs : List (den g), xs.length = n ∧ encL (Enc w S g) xs cs ∧ ∀ x, x ∈ xs → small g x
  | 0, cs, hl, _ => ⟨[], rfl, by simp at hl; exact hl, by simp⟩
  | n + 1, cs, hl, h => by
    obtain ⟨x, hx, hsx⟩ := h 0 (by omega)
    simp only [Nat.zero_mul, List.drop_zero] at hx
    rw [Nat.add_mul, Nat.one_mul] at hl
    obtain ⟨xs, h1, h2, h3⟩ := row_enc (S := S) (g := g) n (cs := cs.drop (ncell g)) (by rw [List.length_drop, hl]; omega) (fun k hk => by
      obtain ⟨y, hy, hsy⟩ := h (k + 1) (by omega)
      refine ⟨y, ?_, hsy⟩
      rw [List.drop_drop]
      rw [Nat.add_mul, Nat.one_mul, Nat.add_comm] at hy
      exact hy)
    exact ⟨x :: xs, by simp [h1], ⟨_, _, (List.take_append_drop (ncell g) cs).symm, hx, h2⟩, fun z hz => by
      rcases List.mem_cons.1 hz with rfl | hz
      · exact hsx
      · exact h3 z hz⟩
theorem cells_get {base : Nat} {a : Addr} {n : Nat} {cs : List Value} (h : w.cells? base a n = some cs) : cs.length = n ∧ ∀ j, j < n → ∃ v, cs[j]? = some v ∧ w.cell? (a.add j) = some v := by
  unfold World.cells? at h
  split at h
  · obtain ⟨h1, h2⟩ := mapM_get h
    refine ⟨by simpa using h1, fun j hj => ?_⟩
    obtain ⟨v, h3, h4⟩ := h2 j j (by simp [hj])
    exact ⟨v, h3, h4⟩
  · cases h

theorem cell_spot {a : Addr} {v : Value} (h : w.cell? a = some v) : a.spot = none ∧ a.block < w.heap.size := by
  unfold World.cell? at h
  split at h
  · rename_i c _ _ hc
    split at h
    · cases h
    · rename_i hs
      exact ⟨by simpa using hs, (Array.getElem?_eq_some_iff.1 hc).1⟩
  · cases h

theorem trod_enc (TOK : TysOK P τ) : ∀ (fuel : Nat) (t : TypeId) (i : TInfo) (cs : List Value) (x : DataW H × List MemPlace), τ t = some i → DataW.trod enc P w 0 (fun _ => true) true fuel t cs = some x → bulk x.1 ≤ 1048576 → ∃ y, Enc w (allS w) i.g y cs ∧ small i.g y
  | 0, t, i, cs, x, _, h, _ => by simp [DataW.trod] at h
  | fuel + 1, t, i, cs, x, hi, h, hb => by
    have T := TOK t i hi
    have hd := T.desc
    have hcl := cellsOf_eq (P := P) TOK hi
    obtain ⟨g, nf, by_, el⟩ := i
    cases g with
    | unit => exact hd.elim
    | bool =>
      simp only at hd
      simp only [DataW.trod, hd] at h
      split at h <;> first | exact ⟨_, rfl, trivial⟩ | simp_all
    | int k =>
      simp only at hd
      simp only [DataW.trod, hd] at h
      split at h <;> try (simp_all; done)
      rename_i k' k2 n heq
      split at h
      · rename_i hk
        simp only [Option.some.injEq, TypeDesc.int.injEq] at heq
        obtain ⟨hk1, hk2⟩ := hk
        subst heq
        subst hk1
        simp only [Lit.wf, Bool.and_eq_true, decide_eq_true_eq] at hk2
        exact ⟨n, ⟨rfl, hk2⟩, trivial⟩
      · cases h
    | str =>
      simp only at hd
      simp only [DataW.trod, hd] at h
      split at h <;> try (simp_all; done)
      rename_i s' _
      split at h
      · rename_i hs
        simp only [Option.some.injEq] at h
        subst h
        simp only [bulk] at hb
        refine ⟨s'.data.toList, ⟨rfl, ?_⟩, ?_⟩
        · simp only [maxStr]; omega
        · show List.length _ ≤ _
          omega
      · cases h
    | prod a b =>
      obtain ⟨fs, q1, q2, q3, q4, q5⟩ := hd
      simp only [DataW.trod, q1] at h
      split at h
      · rename_i hl
        obtain ⟨xs, h1, h2⟩ := Option.map_eq_some_iff.1 h
        obtain ⟨h3, h4⟩ := mapM_get h1
        subst h2
        refine chain_enc q3 (by rw [hl, hcl]) (fun k hk => ?_)
        have hk' : k < fs.size := by omega
        obtain ⟨r1, r2, r3, j, r4, r5, r6⟩ := q5 k fs[k] (by simp [hk'])
        obtain ⟨y, h5, h6⟩ := h4 k fs[k] (by simp [hk'])
        have hby : bulk y.1 ≤ 1048576 := by
          have := bulk_mem (d := y.1) (l := xs.map (·.1)) (List.mem_map.2 ⟨y, List.mem_of_getElem? h5, rfl⟩)
          simp only [bulk] at hb
          omega
        obtain ⟨z, hz, hsz⟩ := trod_enc TOK fuel _ j _ _ r4 h6 hby
        refine ⟨j.g, z, r5, ?_, hsz⟩
        rw [r2, cellsOf_eq TOK r4] at hz
        exact hz
      · cases h
    | arr n a =>
      obtain ⟨e, j, q1, q2, q3⟩ := hd
      subst q3
      simp only [DataW.trod, q1] at h
      split at h
      · rename_i hl
        obtain ⟨xs, h1, h2⟩ := Option.map_eq_some_iff.1 h
        obtain ⟨h3, h4⟩ := mapM_get h1
        subst h2
        have hce := cellsOf_eq (P := P) TOK q2
        obtain ⟨zs, k1, k2, k3⟩ := row_enc (w := w) (S := allS w) (g := j.g) n (cs := cs) (by rw [hl, hcl]; rfl) (fun k hk => by
          obtain ⟨y, h5, h6⟩ := h4 k k (by simp [hk])
          have hby : bulk y.1 ≤ 1048576 := by
            have := bulk_mem (d := y.1) (l := xs.map (·.1)) (List.mem_map.2 ⟨y, List.mem_of_getElem? h5, rfl⟩)
            simp only [bulk] at hb
            omega
          rw [hce] at h6
          exact trod_enc TOK fuel _ j _ _ q2 h6 hby)
        exact ⟨zs, ⟨k1, k2⟩, k3⟩
      · cases h
    | sl a =>
      obtain ⟨e, j, ti, q1, q2, q3, q4, q5, q6, q7, q8, q9⟩ := hd
      subst q4
      have hce := cellsOf_eq (P := P) TOK q3
      have hadd : ∀ (blk off j : Nat), (⟨blk, off, none⟩ : Addr).add j = ⟨blk, off + j, none⟩ := by
        intro blk off j
        unfold Addr.add
        split
        · rename_i hj; subst hj; rfl
        · rfl
      simp only [DataW.trod, q1] at h
      split at h <;> try (simp_all; done)
      · exact ⟨[], ⟨none, 0, rfl, Nat.le_refl _, by simp, by simp [maxRow], .inl rfl⟩, by simp, by simp⟩
      · rename_i e' ad len cap heq
        simp only [Option.some.injEq, TypeDesc.slice.injEq] at heq
        subst heq
        split at h
        · rename_i hcond
          obtain ⟨elems, h1, h2⟩ := Option.bind_eq_some_iff.1 h
          obtain ⟨rest, h3, h4⟩ := Option.map_eq_some_iff.1 h2
          subst h4
          obtain ⟨k1, k2⟩ := mapM_get h1
          have hlen : len ≤ 1048576 := by
            have := bulk_len (elems.map (·.1))
            simp only [bulk] at hb
            simp at this k1
            omega
          have hel : ∀ k, k < len → ∃ ck z, w.cells? 0 (ad.add (k * ncell j.g)) (ncell j.g) = some ck ∧ Enc w (allS w) j.g z ck ∧ small j.g z := by
            intro k hk
            obtain ⟨y, h5, h6⟩ := k2 k k (by simp [hk])
            obtain ⟨ck, h7, h8⟩ := Option.bind_eq_some_iff.1 h6
            have hby : bulk y.1 ≤ 1048576 := by
              have := bulk_mem (d := y.1) (l := elems.map (·.1)) (List.mem_map.2 ⟨y, List.mem_of_getElem? h5, rfl⟩)
              simp only [bulk] at hb
              omega
            rw [hce] at h7
            obtain ⟨z, hz, hsz⟩ := trod_enc TOK fuel _ j _ _ q3 h8 hby
            exact ⟨ck, z, h7, hz, hsz⟩
          rcases Nat.eq_zero_or_pos len with h0 | h0
          · subst h0
            exact ⟨[], ⟨some ad, cap, rfl, Nat.zero_le _, by simp, by simp [maxRow], .inl rfl⟩, by simp, by simp⟩
          · have hspot : ad.spot = none := by
              obtain ⟨ck, z, h7, _⟩ := hel 0 h0
              obtain ⟨_, h8⟩ := cells_get h7
              obtain ⟨v, _, h9⟩ := h8 0 q9
              rw [Nat.zero_mul, show (ad.add 0).add 0 = ad from rfl] at h9
              exact (cell_spot h9).1
            obtain ⟨blk, off, spot⟩ := ad
            simp only at hspot
            subst hspot
            let ds : List Value := (List.range (len * ncell j.g)).map fun q => (w.cell? ⟨blk, off + q, none⟩).getD undef
            have hds : ∀ k, k < len → ∀ q, q < ncell j.g → ∃ v, w.cell? ⟨blk, off + (k * ncell j.g + q), none⟩ = some v := by
              intro k hk q hq
              obtain ⟨ck, z, h7, _⟩ := hel k hk
              obtain ⟨_, h8⟩ := cells_get h7
              obtain ⟨v, _, h9⟩ := h8 q hq
              rw [hadd, hadd] at h9
              exact ⟨v, by rw [← Nat.add_assoc]; exact h9⟩
            have hseg : ∀ k ck, k < len → w.cells? 0 (Addr.add ⟨blk, off, none⟩ (k * ncell j.g)) (ncell j.g) = some ck → (ds.drop (k * ncell j.g)).take (ncell j.g) = ck := by
              intro k ck hk hc
              obtain ⟨h8, h9⟩ := cells_get hc
              have hle : (k + 1) * ncell j.g ≤ len * ncell j.g := Nat.mul_le_mul_right _ hk
              rw [Nat.add_mul, Nat.one_mul] at hle
              apply List.ext_getElem?
              intro q
              rw [List.getElem?_take]
              split
              · rename_i hq
                obtain ⟨v, h10, h11⟩ := h9 q hq
                rw [hadd, hadd, Nat.add_assoc] at h11
                rw [List.getElem?_drop, h10]
                simp only [ds, List.getElem?_map]
                rw [List.getElem?_range (by omega)]
                simp [h11]
              · rename_i hq
                rw [List.getElem?_eq_none (by omega)]
            obtain ⟨zs, r1, r2, r3⟩ := row_enc (w := w) (S := allS w) (g := j.g) len (cs := ds) (by simp [ds]) (fun k hk => by
              obtain ⟨ck, z, h7, h8, h9⟩ := hel k hk
              exact ⟨z, by rw [hseg k ck hk h7]; exact h8, h9⟩)
            have hlb := (TOK e j q3).small.2
            have hlm : len * lbytes j.g ≤ 1048576 * 1048576 := Nat.mul_le_mul hlen hlb
            refine ⟨zs, ⟨some ⟨blk, off, none⟩, cap, by rw [r1], by rw [r1]; exact hcond.2.1, by rw [r1]; simp only [maxRow]; omega, by rw [r1]; simp only [maxRow]; omega, .inr ⟨blk, off, ds, rfl, r2, fun q v hv => ?_⟩⟩, ?_⟩
            rotate_left
            · exact ⟨by rw [r1]; exact hlen, r3⟩
            simp only [ds, List.getElem?_map] at hv
            by_cases hq : q < len * ncell j.g
            · rw [List.getElem?_range hq] at hv
              have hk : q / ncell j.g < len := by
                rw [Nat.div_lt_iff_lt_mul q9]; exact hq
              obtain ⟨v', hv'⟩ := hds (q / ncell j.g) hk (q % ncell j.g) (Nat.mod_lt _ q9)
              rw [show q / ncell j.g * ncell j.g + q % ncell j.g = q from by rw [Nat.mul_comm]; exact Nat.div_add_mod q _] at hv'
              simp only [hv', Option.map_some, Option.getD_some, Option.some.injEq] at hv
              subst hv
              exact ⟨hv', (cell_spot hv').2⟩
            · rw [List.getElem?_eq_none (by simp; omega)] at hv
              simp at hv
        · cases h

/-- An argument is as the machine hands it round. -/
theorem val_of_ok (TOK : TysOK P τ) {t : TypeId} {i : TInfo} (hi : τ t = some i) {base : Nat} {v : Value} (hok : Value.okWide P w .any base t v) (hl : v.cells.toList.length = ncell i.g) : v = toVal i.g v.cells.toList := by
  have T := TOK t i hi
  have ha := T.agg
  unfold toVal
  cases h : isAgg i.g with
  | true =>
    rw [h] at ha
    unfold Value.okWide at hok
    split at hok
    · obtain ⟨cs, rfl, _⟩ := hok; simp [Value.cells]
    · obtain ⟨cs, rfl, _⟩ := hok; simp [Value.cells]
    · rename_i h1 h2
      split at ha
      · rename_i hu; exact (h1 _ hu).elim
      · rename_i hu; exact (h2 _ _ hu).elim
      · cases ha
  | false =>
    rw [h] at ha
    have hna : ∀ cs, v ≠ .agg cs := by
      rintro cs rfl
      unfold Value.okWide at hok
      split at hok
      · rename_i hu; simp [hu] at ha
      · rename_i hu; simp [hu] at ha
      · unfold Cell.okWide at hok
        split at hok <;> try (rename_i hh; cases hh; done)
        unfold Cell.ok at hok
        split at hok <;> first | exact hok | (rename_i hh; cases hh)
    cases v <;> first | rfl | exact (hna _ rfl).elim

/-- The types of parameters. -/
def tysD (τ : Tys) : List TypeId → Option (List GTy)
  | [] => some []
  | t :: ts => match τ t, tysD τ ts with
    | some i, some gs => some (i.g :: gs)
    | _, _ => none

theorem trodAll_enc (TOK : TysOK P τ) {base : Nat} : ∀ {ts : List TypeId} {gs : List GTy} {vs : List Value} {ds : List (DataW H)} {ps : List MemPlace}, tysD τ ts = some gs → DataW.TrodAll enc P w 0 (fun _ => true) true ts vs ds ps → bulkAll ds ≤ 1048576 →
    (∀ (j : Nat) t v, ts[j]? = some t → vs[j]? = some v → Value.okWide P w .any base t v) → ∃ x, EncD w (allS w) gs x vs ∧ smallD gs x
  | [], gs, vs, ds, ps, hg, h, _, _ => by
    simp only [tysD, Option.some.injEq] at hg
    subst hg
    obtain ⟨rfl, _, _⟩ := ChangeShapes.trodAll_nil h
    exact ⟨(), rfl, trivial⟩
  | t :: ts, gs, vs, ds, ps, hg, h, hb, hok => by
    simp only [tysD] at hg
    split at hg
    · rename_i i gs' hi hgs
      simp only [Option.some.injEq] at hg
      subst hg
      obtain ⟨v, vs', d, ds', p, q, rfl, rfl, rfl, ⟨fuel, h1⟩, h2⟩ := ChangeShapes.trodAll_cons h
      simp only [bulkAll] at hb
      obtain ⟨x, hx, hsx⟩ := trod_enc TOK fuel t i _ _ hi h1 (by simp only; omega)
      obtain ⟨y, hy, hsy⟩ := trodAll_enc TOK (base := base) hgs h2 (by omega) (fun j t v h3 h4 => hok (j + 1) t v (by simpa using h3) (by simpa using h4))
      have hv := val_of_ok TOK hi (hok 0 t v rfl rfl) hx.len
      cases gs' with
      | nil =>
        have hvs : vs' = [] := hy
        subst hvs
        exact ⟨x, ⟨_, hx, by rw [← hv]⟩, hsx⟩
      | cons g' gs' => exact ⟨(x, y), ⟨_, vs', hx, by rw [← hv], hy⟩, hsx, hsy⟩
    · cases hg

theorem trodAll_stays (hl : laidOutB P = true) {W W' : World} (hb : RowKit.Below W.heap.size W W') {sp : Nat → Bool} : ∀ {ts : List TypeId} {vs : List Value} {ds : List (DataW H)} {ps : List MemPlace}, (∀ t ∈ ts, P.readableRec t = true ∧ t < P.types.size) →
    DataW.TrodAll enc P W 0 (fun _ => true) true ts vs ds ps → (∀ p ∈ ps, p.block < W.heap.size) → (∀ p ∈ ps, sp p.block = true) → DataW.TrodAll enc P W' 0 sp true ts vs ds ps
  | [], vs, ds, ps, _, h, _, _ => by
    obtain ⟨rfl, rfl, rfl⟩ := ChangeShapes.trodAll_nil h
    exact ChangeShapes.trodAll_mk0
  | t :: ts, vs, ds, ps, hr, h, hlt, hs => by
    obtain ⟨v, vs', d, ds', p, q, rfl, rfl, rfl, h1, h2⟩ := ChangeShapes.trodAll_cons h
    refine trodAll_cons_mk (WideElems.Trod_stays hl (hr t (by simp)).1 (hr t (by simp)).2 h1 (fun x hx => hb.same (hlt x (by simp [hx]))) (fun x hx => hs x (by simp [hx]))) ?_
    exact trodAll_stays hl hb (fun t ht => hr t (by simp [ht])) h2 (fun p hp => hlt p (by simp [hp])) (fun p hp => hs p (by simp [hp]))

theorem kept_of_grows {W W' : World} (h : Grows W W') (may : MemPlace → Prop) : W.keptBut W' may := by
  refine ⟨h.os, h.output, fun i hi => ?_⟩
  rw [h.block i hi]
  cases hh : W.heap[i]? with
  | none => trivial
  | some o => cases o <;> simp

theorem frozen_of_grows {W W' : World} (h : Grows W W') {b off : Nat} (hb : b < W.heap.size) : W'.frozen? ⟨b, off, none⟩ = W.frozen? ⟨b, off, none⟩ := by
  simp [World.frozen?, h.block b hb]

/-- A law that always answers 'true', as its row asks. -/
theorem law_contract (hl : laidOutB P = true) (TOK : TysOK P τ) {f : Nat} {fn : Func} {gs : List GTy} (hts : tysD τ fn.params.toList = some gs) (hread' : (fn.params.toList.all fun t => P.readableRec t && Nat.blt t P.types.size) = true)
    {tb : TypeId} (hr : fn.resultTypes = #[tb]) (htb : P.underlying tb = some .bool) (hc : CtrOK P f { args := gs, res := [.bool], pre := some (smallD gs), fn := fun _ => true })
    {s : ChangeSpec} (hvars : s.vars = []) (hs : ∀ ds : List (DataW H), ds.length = fn.params.toList.length → s.fn H ds = ⟨[.lit (.bool true)], ds, []⟩) {apart fresh handsOn again : Bool} {W : World} {base : Nat} {args : Array Value} {ds es : List (DataW H)} {before : List MemPlace}
    (hval : ∀ (j : Nat) t v, fn.params[j]? = some t → args[j]? = some v → Value.okWide P W .any base t v) (hW : DataW.Whole enc P fn.params.toList s.vars apart W args.toList ds es before) (hb' : bulkAll (ds ++ es) ≤ 1048576) :
    Calls P f args W fun e W' => ∃ v, e = .returned v ∧ s.post enc P fn apart fresh handsOn again W args v W' := by
  have hW' := hW
  obtain ⟨p, q, hA, hV, rfl, hfz, hnd⟩ := hW
  rw [hvars] at hV
  obtain ⟨rfl, rfl⟩ := trodVars_none hV
  have hb : bulkAll ds ≤ 1048576 := by rw [List.append_nil] at hb'; exact hb'
  have hread : ∀ t ∈ fn.params.toList, P.readableRec t = true ∧ t < P.types.size := by
    intro t ht
    have := List.all_eq_true.1 hread' t ht
    simp only [Bool.and_eq_true] at this
    exact ⟨this.1, by simpa [Nat.blt_eq] using this.2⟩
  obtain ⟨x, hx, hsm⟩ := trodAll_enc TOK (base := base) hts hA hb (fun j t v h1 h2 => hval j t v (by simpa using h1) (by simpa using h2))
  have hcall := hc.2 W (allS W) args.toList x (fun b o h => h) hx (fun p hp => by simp only [Option.some.injEq] at hp; subst hp; exact hsm)
  simp only [Array.toArray_toList] at hcall
  refine hcall.mono ?_
  rintro e W' ⟨v, he, hg, N, hN, us, ⟨cs, hcs, hus⟩, hv⟩
  subst hus
  simp only at hv
  have hcs' : cs = [.bool true] := hcs
  subst hcs'
  have hv' : v = .bool true := hv
  subst hv'
  have hlt : ∀ x ∈ p, x.block < W.heap.size := fun y hy => hW'.lt y (by simp [hy])
  have hbel : RowKit.Below W.heap.size W W' := ⟨hg.os, hg.tape, hg.output, hg.size, hg.block⟩
  have hlen := (trodAll_length hA).2
  have hfn : s.fn H (ds ++ []) = ⟨[.lit (.bool true)], ds, []⟩ := by
    rw [List.append_nil]; exact hs ds hlen
  have hres : ∀ (b : Nat) (sp : Nat → Bool) (hd : Bool), DataW.TrodAll enc P W' b sp hd fn.resultTypes.toList ((Value.bool true).resultList fn.resultTypes.size) [.lit (.bool true)] [] := by
    intro b sp hd
    rw [hr]
    exact ⟨[], [], shut_bool htb true, trodAll_mk0, rfl⟩
  have hargs : ∀ sp : Nat → Bool, (∀ x ∈ p, sp x.block = true) → DataW.TrodAll enc P W' 0 sp true fn.params.toList args.toList ds p := fun sp hsp => trodAll_stays hl hbel hread hA hlt hsp
  refine ⟨_, he, ds, [], p ++ [], [], p, [], hW', ?_, ?_, ?_, kept_of_grows hg _, fun _ => ⟨ok_one hr rfl (okWide_bool_mk htb _), _, [], ([] ++ p) ++ [], ⟨[] ++ p, [], trodAll_append (hargs _ (fun _ _ => rfl)) (hres _ _ _), ?_, rfl, ?_, ?_⟩, ?_⟩⟩
  · rw [hfn]; exact hres _ _ _
  · rw [hfn]; exact hargs _ (fun x hx => by simpa using hlt x hx)
  · rw [hfn, hvars]; rfl
  · rw [hvars]; rfl
  · intro b off hm
    have hm' : MemPlace.cell b off ∈ p := by simpa using hm
    have hb' : b < W.heap.size := hlt _ hm'
    rw [frozen_of_grows hg hb']
    exact hfz b off (by simpa using hm')
  · intro ha
    have := hnd ha
    simpa using this
  · intro x hx _
    simpa using hx
end
end Go.Ev
