/- What a row reads, told in types. -/
import Derived.Deep.Slices
import Derived.ChangeSame
import Derived.Carry
import Derived.RowKit3
import Derived.OpenShut
import Derived.ChangeCalls
import Derived.Shelf.Strings.Builder1
import Derived.Shelf.Utf8.RuneCount
import Derived.Shelf.Strconv.Itoa0
import Derived.Shelf.Strconv.Itoa1
import Derived.Shelf.LaysM
import Derived.Shelf.Strconv.Itoa2
import Derived.Shelf.Strconv.Itoa3
import Derived.Shelf.Strings.Search1
import Derived.Shelf.Strings.Search2
import Derived.Shelf.Strings.Search3
import Derived.Shelf.Strings.Cut
import Derived.Shelf.Strings.Count
import Derived.Shelf.Strings.Shaped
import Derived.Shelf.Strings.Split
import Derived.Shelf.Strings.SplitShaped
import Derived.Shelf.Unicode.Decode
import Derived.Shelf.Strings.RuneCount
import Derived.Shelf.Strings.Explode
import Derived.Shelf.Unicode.DecodeSlow
import Derived.Shelf.Unicode.DecodeAny
import Derived.Test.YtohodbfoeejbjaaDoorProg
import Derived.Test.YtohodbfoeejbjaaDoorTextCostsReads8

set_option linter.unusedVariables false
set_option linter.unusedSimpArgs false
namespace Go.Ev
open Go.ChangeShapes Go.RowKit

mutual
def bulk {H : Type} : DataW H → Nat
  | .lit (.string bytes) => bytes.length + 1
  | .lit _ => 1
  | .nil => 1
  | .ptr d => bulk d + 1
  | .slice elems spare => bulkAll elems + bulkAll spare + 1
  | .agg parts => bulkAll parts + 1
  | .iface _ d => bulk d + 1
  | .map entries => bulkEntries entries + 1
  | .held _ => 1
def bulkAll {H : Type} : List (DataW H) → Nat
  | [] => 0
  | d :: r => bulk d + bulkAll r
def bulkEntries {H : Type} : List (Lit × DataW H) → Nat
  | [] => 0
  | x :: r => bulkEntry x + bulkEntries r
def bulkEntry {H : Type} : Lit × DataW H → Nat
  | (.string bytes, d) => bytes.length + bulk d + 1
  | (_, d) => bulk d + 1
end

theorem bulk_mem {H : Type} {d : DataW H} : ∀ {l : List (DataW H)}, d ∈ l → bulk d ≤ bulkAll l
  | [], h => by simp at h
  | x :: l, h => by
    simp only [bulkAll]
    rcases List.mem_cons.1 h with rfl | h
    · omega
    · have := bulk_mem h; omega

theorem bulk_pos {H : Type} : ∀ (d : DataW H), 1 ≤ bulk d := by
  intro d
  cases d with
  | lit l => cases l <;> simp [bulk]
  | _ => simp [bulk]

theorem bulk_len {H : Type} : ∀ (l : List (DataW H)), l.length ≤ bulkAll l
  | [] => by simp [bulkAll]
  | x :: l => by
    have := bulk_len l
    have := bulk_pos x
    simp only [bulkAll, List.length_cons]
    omega

abbrev allS (w : World) : Stab := fun b _ => b < w.heap.size

section
variable {P : Program} {τ : Tys} {w : World} {H : Type} {enc : TypeId × Value → H}

theorem cellsOf_eq (TOK : TysOK P τ) {t : TypeId} {i : TInfo} (hi : τ t = some i) : P.cellsOf t = ncell i.g := by
  obtain ⟨ti, h1, h2, _⟩ := (TOK t i hi).info
  simp [Program.cellsOf, h1, h2]

/-- A chain, out of its fields. -/
theorem chain_enc {S : Stab} : ∀ {n : Nat} {g : GTy} {cs : List Value}, Chain n g → cs.length = ncell g → (∀ k, k < n → ∃ h x, pathTy g (fieldPath n k) = some h ∧ Enc w S h x ((cs.drop (offs g (fieldPath n k))).take (ncell h)) ∧ small h x) → ∃ x, Enc w S g x cs ∧ small g x
  | 1, .prod a .unit, cs, _, hl, h => by
    obtain ⟨h', x, h1, h2, h3⟩ := h 0 (by omega)
    simp only [fieldPath, pathTy, Option.some.injEq] at h1
    subst h1
    simp only [fieldPath, offs, List.drop_zero] at h2
    simp only [ncell, Nat.add_zero] at hl
    rw [List.take_of_length_le (by omega)] at h2
    exact ⟨(x, ()), ⟨cs, [], by simp, h2, rfl⟩, h3, trivial⟩
  | 2, .prod a b, cs, _, hl, h => by
    obtain ⟨h0, x, p1, p2, p3⟩ := h 0 (by omega)
    obtain ⟨h1, y, q1, q2, q3⟩ := h 1 (by omega)
    simp only [fieldPath, pathTy, Option.some.injEq] at p1 q1
    subst p1
    subst q1
    simp only [fieldPath, offs, List.drop_zero, Nat.add_zero] at p2 q2
    simp only [ncell] at hl
    rw [List.take_of_length_le (by simp; omega)] at q2
    exact ⟨(x, y), ⟨_, _, (List.take_append_drop (ncell a) cs).symm, p2, q2⟩, p3, q3⟩
  | n + 3, .prod a b, cs, hc, hl, h => by
    obtain ⟨h0, x, p1, p2, p3⟩ := h 0 (by omega)
    simp only [fieldPath, pathTy, Option.some.injEq] at p1
    subst p1
    simp only [fieldPath, offs, List.drop_zero] at p2
    simp only [ncell] at hl
    obtain ⟨y, hy, hy'⟩ := chain_enc (n := n + 2) (g := b) (cs := cs.drop (ncell a)) hc (by simp; omega) (fun k hk => by
      obtain ⟨h', z, r1, r2, r3⟩ := h (k + 1) (by omega)
      refine ⟨h', z, ?_, ?_, r3⟩
      · simpa only [fieldPath, pathTy] using r1
      · simp only [fieldPath, offs] at r2
        rw [List.drop_drop]
        exact r2)
    exact ⟨(x, y), ⟨_, _, (List.take_append_drop (ncell a) cs).symm, p2, hy⟩, p3, hy'⟩
theorem mapM_get {α β : Type} {f : α → Option β} : ∀ {l : List α} {r : List β}, l.mapM f = some r → r.length = l.length ∧ ∀ (k : Nat) (a : α), l[k]? = some a → ∃ b, r[k]? = some b ∧ f a = some b
  | [], r, h => by
    simp at h
    subst h
    simp
  | a :: l, r, h => by
    rw [List.mapM_cons] at h
    cases ha : f a with
    | none => simp [ha] at h
    | some b =>
      cases hl : l.mapM f with
      | none => simp [ha, hl] at h
      | some r' =>
        simp [ha, hl] at h
        subst h
        obtain ⟨h1, h2⟩ := mapM_get hl
        refine ⟨by simp [h1], fun k x hk => ?_⟩
        cases k with
        | zero => simp at hk; subst hk; exact ⟨b, by simp, ha⟩
        | succ k => simpa using h2 k x (by simpa using hk)

/-- A row of n, out of its places. -/
theorem row_enc {S : Stab} {g : GTy} : ∀ (n : Nat) {cs : List Value}, cs.length = n * ncell g → (∀ k, k < n → ∃ x, Enc w S g x ((cs.drop (k * ncell g)).take (ncell g)) ∧ small g x) → ∃ xs : List (den g), xs.length = n ∧ encL (Enc w S g) xs cs ∧ ∀ x, x ∈ xs → small g x
  | 0, cs, hl, _ => ⟨[], rfl, by simp at hl; exact hl, by simp⟩
  | n + 1, cs, hl, h => by
    obtain ⟨x, hx, hsx⟩ := h 0 (by omega)
    simp only [Nat.zero_mul, List.drop_zero] at hx
    rw [Nat.add_mul, Nat.one_mul] at hl
    obtain ⟨xs, h1, h2, h3⟩ := row_enc (S := S) (g := g) n (cs := cs.drop (ncell g)) (by rw [List.length_drop, hl]; omega) (fun k hk => by
      obtain ⟨y, hy, hsy⟩ := h (k + 1) (by omega)
      refine ⟨y, ?_, hsy⟩
      rw [List.drop_drop]
      rw [Nat.add_mul, Nat.one_mul, Nat.add_comm] at hy
      exact hy)
    exact ⟨x :: xs, by simp [h1], ⟨_, _, (List.take_append_drop (ncell g) cs).symm, hx, h2⟩, fun z hz => by
      rcases List.mem_cons.1 hz with rfl | hz
      · exact hsx
      · exact h3 z hz⟩
theorem cells_get {base : Nat} {a : Addr} {n : Nat} {cs : List Value} (h : w.cells? base a n = some cs) : cs.length = n ∧ ∀ j, j < n → ∃ v, cs[j]? = some v ∧ w.cell? (a.add j) = some v := by
  unfold World.cells? at h
  split at h
  · obtain ⟨h1, h2⟩ := mapM_get h
    refine ⟨by simpa using h1, fun j hj => ?_⟩
    obtain ⟨v, h3, h4⟩ := h2 j j (by simp [hj])
    exact ⟨v, h3, h4⟩
  · cases h

theorem cell_spot {a : Addr} {v : Value} (h : w.cell? a = some v) : a.spot = none ∧ a.block < w.heap.size := by
  unfold World.cell? at h
  split at h
  · rename_i c _ _ hc
    split at h
    · cases h
    · rename_i hs
      exact ⟨by simpa using hs, (Array.getElem?_eq_some_iff.1 hc).1⟩
  · cases h

theorem trod_enc (TOK : TysOK P τ) : ∀ (fuel : Nat) (t : TypeId) (i : TInfo) (cs : List Value) (x : DataW H × List MemPlace), τ t = some i → DataW.trod enc P w 0 (fun _ => true) true fuel t cs = some x → bulk x.1 ≤ 1048576 → ∃ y, Enc w (allS w) i.g y cs ∧ small i.g y
  | 0, t, i, cs, x, _, h, _ => by simp [DataW.trod] at h
  | fuel + 1, t, i, cs, x, hi, h, hb => by
    have T := TOK t i hi
    have hd := T.desc
    have hcl := cellsOf_eq (P := P) TOK hi
    obtain ⟨g, nf, by_, el⟩ := i
    cases g with
    | unit => exact hd.elim
    | err =>
      obtain ⟨ms, hd⟩ := hd
      simp only [DataW.trod, hd] at h
      split at h <;> first | exact ⟨false, .inl ⟨rfl, rfl⟩, trivial⟩ | exact ⟨true, .inr ⟨rfl, _, _, rfl⟩, trivial⟩ | (simp_all; done)
    | bool =>
      simp only at hd
      simp only [DataW.trod, hd] at h
      split at h <;> first | exact ⟨_, rfl, trivial⟩ | simp_all
    | int k =>
      simp only at hd
      simp only [DataW.trod, hd] at h
      split at h <;> try (simp_all; done)
      rename_i k' k2 n heq
      split at h
      · rename_i hk
        simp only [Option.some.injEq, TypeDesc.int.injEq] at heq
        obtain ⟨hk1, hk2⟩ := hk
        subst heq
        subst hk1
        simp only [Lit.wf, Bool.and_eq_true, decide_eq_true_eq] at hk2
        exact ⟨n, ⟨rfl, hk2⟩, trivial⟩
      · cases h
    | str =>
      simp only at hd
      simp only [DataW.trod, hd] at h
      split at h <;> try (simp_all; done)
      rename_i s' _
      split at h
      · rename_i hs
        simp only [Option.some.injEq] at h
        subst h
        simp only [bulk] at hb
        refine ⟨s'.data.toList, ⟨rfl, ?_⟩, ?_⟩
        · simp only [maxStr]; omega
        · show List.length _ ≤ _
          omega
      · cases h
    | prod a b =>
      obtain ⟨fs, q1, q2, q3, q4, q5⟩ := hd
      simp only [DataW.trod, q1] at h
      split at h
      · rename_i hl
        obtain ⟨xs, h1, h2⟩ := Option.map_eq_some_iff.1 h
        obtain ⟨h3, h4⟩ := mapM_get h1
        subst h2
        refine chain_enc q3 (by rw [hl, hcl]) (fun k hk => ?_)
        have hk' : k < fs.size := by omega
        obtain ⟨r1, r2, r3, j, r4, r5, r6⟩ := q5 k fs[k] (by simp [hk'])
        obtain ⟨y, h5, h6⟩ := h4 k fs[k] (by simp [hk'])
        have hby : bulk y.1 ≤ 1048576 := by
          have := bulk_mem (d := y.1) (l := xs.map (·.1)) (List.mem_map.2 ⟨y, List.mem_of_getElem? h5, rfl⟩)
          simp only [bulk] at hb
          omega
        obtain ⟨z, hz, hsz⟩ := trod_enc TOK fuel _ j _ _ r4 h6 hby
        refine ⟨j.g, z, r5, ?_, hsz⟩
        rw [r2, cellsOf_eq TOK r4] at hz
        exact hz
      · cases h
    | arr n a =>
      obtain ⟨e, j, q1, q2, q3⟩ := hd
      subst q3
      simp only [DataW.trod, q1] at h
      split at h
      · rename_i hl
        obtain ⟨xs, h1, h2⟩ := Option.map_eq_some_iff.1 h
        obtain ⟨h3, h4⟩ := mapM_get h1
        subst h2
        have hce := cellsOf_eq (P := P) TOK q2
        obtain ⟨zs, k1, k2, k3⟩ := row_enc (w := w) (S := allS w) (g := j.g) n (cs := cs) (by rw [hl, hcl]; rfl) (fun k hk => by
          obtain ⟨y, h5, h6⟩ := h4 k k (by simp [hk])
          have hby : bulk y.1 ≤ 1048576 := by
            have := bulk_mem (d := y.1) (l := xs.map (·.1)) (List.mem_map.2 ⟨y, List.mem_of_getElem? h5, rfl⟩)
            simp only [bulk] at hb
            omega
          rw [hce] at h6
          exact trod_enc TOK fuel _ j _ _ q2 h6 hby)
        exact ⟨zs, ⟨k1, k2⟩, k3⟩
      · cases h
    | sl a =>
      obtain ⟨e, j, ti, q1, q2, q3, q4, q5, q6, q7, q8, q9⟩ := hd
      subst q4
      have hce := cellsOf_eq (P := P) TOK q3
      have hadd : ∀ (blk off j : Nat), (⟨blk, off, none⟩ : Addr).add j = ⟨blk, off + j, none⟩ := by
        intro blk off j
        unfold Addr.add
        split
        · rename_i hj; subst hj; rfl
        · rfl
      simp only [DataW.trod, q1] at h
      split at h <;> try (simp_all; done)
      · exact ⟨[], ⟨none, 0, rfl, Nat.le_refl _, by simp, by simp [maxRow], .inl rfl⟩, by simp, by simp⟩
      · rename_i e' ad len cap heq
        simp only [Option.some.injEq, TypeDesc.slice.injEq] at heq
        subst heq
        split at h
        · rename_i hcond
          obtain ⟨elems, h1, h2⟩ := Option.bind_eq_some_iff.1 h
          obtain ⟨rest, h3, h4⟩ := Option.map_eq_some_iff.1 h2
          subst h4
          obtain ⟨k1, k2⟩ := mapM_get h1
          have hlen : len ≤ 1048576 := by
            have := bulk_len (elems.map (·.1))
            simp only [bulk] at hb
            simp at this k1
            omega
          have hel : ∀ k, k < len → ∃ ck z, w.cells? 0 (ad.add (k * ncell j.g)) (ncell j.g) = some ck ∧ Enc w (allS w) j.g z ck ∧ small j.g z := by
            intro k hk
            obtain ⟨y, h5, h6⟩ := k2 k k (by simp [hk])
            obtain ⟨ck, h7, h8⟩ := Option.bind_eq_some_iff.1 h6
            have hby : bulk y.1 ≤ 1048576 := by
              have := bulk_mem (d := y.1) (l := elems.map (·.1)) (List.mem_map.2 ⟨y, List.mem_of_getElem? h5, rfl⟩)
              simp only [bulk] at hb
              omega
            rw [hce] at h7
            obtain ⟨z, hz, hsz⟩ := trod_enc TOK fuel _ j _ _ q3 h8 hby
            exact ⟨ck, z, h7, hz, hsz⟩
          rcases Nat.eq_zero_or_pos len with h0 | h0
          · subst h0
            exact ⟨[], ⟨some ad, cap, rfl, Nat.zero_le _, by simp, by simp [maxRow], .inl rfl⟩, by simp, by simp⟩
          · have hspot : ad.spot = none := by
              obtain ⟨ck, z, h7, _⟩ := hel 0 h0
              obtain ⟨_, h8⟩ := cells_get h7
              obtain ⟨v, _, h9⟩ := h8 0 q9
              rw [Nat.zero_mul, show (ad.add 0).add 0 = ad from rfl] at h9
              exact (cell_spot h9).1
            obtain ⟨blk, off, spot⟩ := ad
            simp only at hspot
            subst hspot
            let ds : List Value := (List.range (len * ncell j.g)).map fun q => (w.cell? ⟨blk, off + q, none⟩).getD undef
            have hds : ∀ k, k < len → ∀ q, q < ncell j.g → ∃ v, w.cell? ⟨blk, off + (k * ncell j.g + q), none⟩ = some v := by
              intro k hk q hq
              obtain ⟨ck, z, h7, _⟩ := hel k hk
              obtain ⟨_, h8⟩ := cells_get h7
              obtain ⟨v, _, h9⟩ := h8 q hq
              rw [hadd, hadd] at h9
              exact ⟨v, by rw [← Nat.add_assoc]; exact h9⟩
            have hseg : ∀ k ck, k < len → w.cells? 0 (Addr.add ⟨blk, off, none⟩ (k * ncell j.g)) (ncell j.g) = some ck → (ds.drop (k * ncell j.g)).take (ncell j.g) = ck := by
              intro k ck hk hc
              obtain ⟨h8, h9⟩ := cells_get hc
              have hle : (k + 1) * ncell j.g ≤ len * ncell j.g := Nat.mul_le_mul_right _ hk
              rw [Nat.add_mul, Nat.one_mul] at hle
              apply List.ext_getElem?
              intro q
              rw [List.getElem?_take]
              split
              · rename_i hq
                obtain ⟨v, h10, h11⟩ := h9 q hq
                rw [hadd, hadd, Nat.add_assoc] at h11
                rw [List.getElem?_drop, h10]
                simp only [ds, List.getElem?_map]
                rw [List.getElem?_range (by omega)]
                simp [h11]
              · rename_i hq
                rw [List.getElem?_eq_none (by omega)]
            obtain ⟨zs, r1, r2, r3⟩ := row_enc (w := w) (S := allS w) (g := j.g) len (cs := ds) (by simp [ds]) (fun k hk => by
              obtain ⟨ck, z, h7, h8, h9⟩ := hel k hk
              exact ⟨z, by rw [hseg k ck hk h7]; exact h8, h9⟩)
            have hlb := (TOK e j q3).small.2
            have hlm : len * lbytes j.g ≤ 1048576 * 1048576 := Nat.mul_le_mul hlen hlb
            refine ⟨zs, ⟨some ⟨blk, off, none⟩, cap, by rw [r1], by rw [r1]; exact hcond.2.1, by rw [r1]; simp only [maxRow]; omega, by rw [r1]; simp only [maxRow]; omega, .inr ⟨blk, off, ds, rfl, r2, fun q v hv => ?_⟩⟩, ?_⟩
            rotate_left
            · exact ⟨by rw [r1]; exact hlen, r3⟩
            simp only [ds, List.getElem?_map] at hv
            by_cases hq : q < len * ncell j.g
            · rw [List.getElem?_range hq] at hv
              have hk : q / ncell j.g < len := by
                rw [Nat.div_lt_iff_lt_mul q9]; exact hq
              obtain ⟨v', hv'⟩ := hds (q / ncell j.g) hk (q % ncell j.g) (Nat.mod_lt _ q9)
              rw [show q / ncell j.g * ncell j.g + q % ncell j.g = q from by rw [Nat.mul_comm]; exact Nat.div_add_mod q _] at hv'
              simp only [hv', Option.map_some, Option.getD_some, Option.some.injEq] at hv
              subst hv
              exact ⟨hv', (cell_spot hv').2⟩
            · rw [List.getElem?_eq_none (by simp; omega)] at hv
              simp at hv
        · cases h

/-- An argument is as the machine hands it round. -/
theorem val_of_ok (TOK : TysOK P τ) {t : TypeId} {i : TInfo} (hi : τ t = some i) {base : Nat} {v : Value} (hok : Value.okWide P w .any base t v) (hl : v.cells.toList.length = ncell i.g) : v = toVal i.g v.cells.toList := by
  have T := TOK t i hi
  have ha := T.agg
  unfold toVal
  cases h : isAgg i.g with
  | true =>
    rw [h] at ha
    unfold Value.okWide at hok
    split at hok
    · obtain ⟨cs, rfl, _⟩ := hok; simp [Value.cells]
    · obtain ⟨cs, rfl, _⟩ := hok; simp [Value.cells]
    · rename_i h1 h2
      split at ha
      · rename_i hu; exact (h1 _ hu).elim
      · rename_i hu; exact (h2 _ _ hu).elim
      · cases ha
  | false =>
    rw [h] at ha
    have hna : ∀ cs, v ≠ .agg cs := by
      rintro cs rfl
      unfold Value.okWide at hok
      split at hok
      · rename_i hu; simp [hu] at ha
      · rename_i hu; simp [hu] at ha
      · unfold Cell.okWide at hok
        split at hok <;> try (rename_i hh; cases hh; done)
        unfold Cell.ok at hok
        split at hok <;> first | exact hok | (rename_i hh; cases hh)
    cases v <;> first | rfl | exact (hna _ rfl).elim

/-- The types of parameters. -/
def tysD (τ : Tys) : List TypeId → Option (List GTy)
  | [] => some []
  | t :: ts => match τ t, tysD τ ts with
    | some i, some gs => some (i.g :: gs)
    | _, _ => none

theorem trodAll_enc (TOK : TysOK P τ) {base : Nat} : ∀ {ts : List TypeId} {gs : List GTy} {vs : List Value} {ds : List (DataW H)} {ps : List MemPlace}, tysD τ ts = some gs → DataW.TrodAll enc P w 0 (fun _ => true) true ts vs ds ps → bulkAll ds ≤ 1048576 →
    (∀ (j : Nat) t v, ts[j]? = some t → vs[j]? = some v → Value.okWide P w .any base t v) → ∃ x, EncD w (allS w) gs x vs ∧ smallD gs x
  | [], gs, vs, ds, ps, hg, h, _, _ => by
    simp only [tysD, Option.some.injEq] at hg
    subst hg
    obtain ⟨rfl, _, _⟩ := ChangeShapes.trodAll_nil h
    exact ⟨(), rfl, trivial⟩
  | t :: ts, gs, vs, ds, ps, hg, h, hb, hok => by
    simp only [tysD] at hg
    split at hg
    · rename_i i gs' hi hgs
      simp only [Option.some.injEq] at hg
      subst hg
      obtain ⟨v, vs', d, ds', p, q, rfl, rfl, rfl, ⟨fuel, h1⟩, h2⟩ := ChangeShapes.trodAll_cons h
      simp only [bulkAll] at hb
      obtain ⟨x, hx, hsx⟩ := trod_enc TOK fuel t i _ _ hi h1 (by simp only; omega)
      obtain ⟨y, hy, hsy⟩ := trodAll_enc TOK (base := base) hgs h2 (by omega) (fun j t v h3 h4 => hok (j + 1) t v (by simpa using h3) (by simpa using h4))
      have hv := val_of_ok TOK hi (hok 0 t v rfl rfl) hx.len
      cases gs' with
      | nil =>
        have hvs : vs' = [] := hy
        subst hvs
        exact ⟨x, ⟨_, hx, by rw [← hv]⟩, hsx⟩
      | cons g' gs' => exact ⟨(x, y), ⟨_, vs', hx, by rw [← hv], hy⟩, hsx, hsy⟩
    · cases hg

theorem trodAll_stays (hl : laidOutB P = true) {W W' : World} (hb : RowKit.Below W.heap.size W W') {sp : Nat → Bool} : ∀ {ts : List TypeId} {vs : List Value} {ds : List (DataW H)} {ps : List MemPlace}, (∀ t ∈ ts, P.readableRec t = true ∧ t < P.types.size) →
    DataW.TrodAll enc P W 0 (fun _ => true) true ts vs ds ps → (∀ p ∈ ps, p.block < W.heap.size) → (∀ p ∈ ps, sp p.block = true) → DataW.TrodAll enc P W' 0 sp true ts vs ds ps
  | [], vs, ds, ps, _, h, _, _ => by
    obtain ⟨rfl, rfl, rfl⟩ := ChangeShapes.trodAll_nil h
    exact ChangeShapes.trodAll_mk0
  | t :: ts, vs, ds, ps, hr, h, hlt, hs => by
    obtain ⟨v, vs', d, ds', p, q, rfl, rfl, rfl, h1, h2⟩ := ChangeShapes.trodAll_cons h
    refine trodAll_cons_mk (WideElems.Trod_stays hl (hr t (by simp)).1 (hr t (by simp)).2 h1 (fun x hx => hb.same (hlt x (by simp [hx]))) (fun x hx => hs x (by simp [hx]))) ?_
    exact trodAll_stays hl hb (fun t ht => hr t (by simp [ht])) h2 (fun p hp => hlt p (by simp [hp])) (fun p hp => hs p (by simp [hp]))

theorem kept_of_grows {W W' : World} (h : Grows W W') (may : MemPlace → Prop) : W.keptBut W' may := by
  refine ⟨h.os, h.output, fun i hi => ?_⟩
  rw [h.block i hi]
  cases hh : W.heap[i]? with
  | none => trivial
  | some o => cases o <;> simp

theorem frozen_of_grows {W W' : World} (h : Grows W W') {b off : Nat} (hb : b < W.heap.size) : W'.frozen? ⟨b, off, none⟩ = W.frozen? ⟨b, off, none⟩ := by
  simp [World.frozen?, h.block b hb]

/-- A law that always answers 'true', as its row asks. -/
theorem law_contract (hl : laidOutB P = true) (TOK : TysOK P τ) {f : Nat} {fn : Func} {gs : List GTy} (hts : tysD τ fn.params.toList = some gs) (hread' : (fn.params.toList.all fun t => P.readableRec t && Nat.blt t P.types.size) = true)
    {tb : TypeId} (hr : fn.resultTypes = #[tb]) (htb : P.underlying tb = some .bool) (hc : CtrOK P f { args := gs, res := [.bool], pre := some (smallD gs), fn := fun _ => true })
    {s : ChangeSpec} (hvars : s.vars = []) (hs : ∀ ds : List (DataW H), ds.length = fn.params.toList.length → s.fn H ds = ⟨[.lit (.bool true)], ds, []⟩) {apart fresh handsOn again : Bool} {W : World} {base : Nat} {args : Array Value} {ds es : List (DataW H)} {before : List MemPlace}
    (hval : ∀ (j : Nat) t v, fn.params[j]? = some t → args[j]? = some v → Value.okWide P W .any base t v) (hW : DataW.Whole enc P fn.params.toList s.vars apart W args.toList ds es before) (hb' : bulkAll (ds ++ es) ≤ 1048576) (hT : Tab (allS W) W) :
    Calls P f args W fun e W' => ∃ v, e = .returned v ∧ s.post enc P fn apart fresh handsOn again W args v W' := by
  have hW' := hW
  obtain ⟨p, q, hA, hV, rfl, hfz, hnd⟩ := hW
  rw [hvars] at hV
  obtain ⟨rfl, rfl⟩ := trodVars_none hV
  have hb : bulkAll ds ≤ 1048576 := by rw [List.append_nil] at hb'; exact hb'
  have hread : ∀ t ∈ fn.params.toList, P.readableRec t = true ∧ t < P.types.size := by
    intro t ht
    have := List.all_eq_true.1 hread' t ht
    simp only [Bool.and_eq_true] at this
    exact ⟨this.1, by simpa [Nat.blt_eq] using this.2⟩
  obtain ⟨x, hx, hsm⟩ := trodAll_enc TOK (base := base) hts hA hb (fun j t v h1 h2 => hval j t v (by simpa using h1) (by simpa using h2))
  have hcall := hc.2 W (allS W) args.toList x (fun b o h => h) hT hx (fun p hp => by simp only [Option.some.injEq] at hp; subst hp; exact hsm)
  simp only [Array.toArray_toList] at hcall
  refine hcall.mono ?_
  rintro e W' ⟨v, he, hg, N, hN, us, ⟨cs, hcs, hus⟩, hv⟩
  subst hus
  simp only at hv
  have hcs' : cs = [.bool true] := hcs
  subst hcs'
  have hv' : v = .bool true := hv
  subst hv'
  have hlt : ∀ x ∈ p, x.block < W.heap.size := fun y hy => hW'.lt y (by simp [hy])
  have hbel : RowKit.Below W.heap.size W W' := ⟨hg.os, hg.tape, hg.output, hg.size, hg.block⟩
  have hlen := (trodAll_length hA).2
  have hfn : s.fn H (ds ++ []) = ⟨[.lit (.bool true)], ds, []⟩ := by
    rw [List.append_nil]; exact hs ds hlen
  have hres : ∀ (b : Nat) (sp : Nat → Bool) (hd : Bool), DataW.TrodAll enc P W' b sp hd fn.resultTypes.toList ((Value.bool true).resultList fn.resultTypes.size) [.lit (.bool true)] [] := by
    intro b sp hd
    rw [hr]
    exact ⟨[], [], shut_bool htb true, trodAll_mk0, rfl⟩
  have hargs : ∀ sp : Nat → Bool, (∀ x ∈ p, sp x.block = true) → DataW.TrodAll enc P W' 0 sp true fn.params.toList args.toList ds p := fun sp hsp => trodAll_stays hl hbel hread hA hlt hsp
  refine ⟨_, he, ds, [], p ++ [], [], p, [], hW', ?_, ?_, ?_, kept_of_grows hg _, fun _ => ⟨ok_one hr rfl (okWide_bool_mk htb _), _, [], ([] ++ p) ++ [], ⟨[] ++ p, [], trodAll_append (hargs _ (fun _ _ => rfl)) (hres _ _ _), ?_, rfl, ?_, ?_⟩, ?_⟩⟩
  · rw [hfn]; exact hres _ _ _
  · rw [hfn]; exact hargs _ (fun x hx => by simpa using hlt x hx)
  · rw [hfn, hvars]; rfl
  · rw [hvars]; rfl
  · intro b off hm
    have hm' : MemPlace.cell b off ∈ p := by simpa using hm
    have hb' : b < W.heap.size := hlt _ hm'
    rw [frozen_of_grows hg hb']
    exact hfz b off (by simpa using hm')
  · intro ha
    have := hnd ha
    simpa using this
  · intro x hx _
    simpa using hx
end
end Go.Ev
/-
  DERIVED: THE SHELF's CONTRACTS AT THIS DUMP, IN PLAIN WORDS (tools/lay-plain.mjs out of 'TrydLibA.lean', which tools/lay-shelf.mjs wrote): THE SAME DECLARATIONS UNDER THE SAME NAMES: 'import', 'namespace', 'open', 'def', 'theorem' AND NOTHING ELSE: no command of the shelf's: FOR A HAND-IN. Each laying: the table of numbers ('.._ren') and one theorem, a field a fact of the dump's own or the kernel's comparison; each contract: ONE APPLICATION.
-/
namespace Go.Proofs
open Go.Shelf
def Tryd.lays169_ren : Go.Shelf.Ren := ⟨fun | 169 => 113 | n => n, fun | 70 => 110 | 9 => 9 | 0 => 0 | 72 => 113 | 37 => 111 | 127 => 141 | 3 => 3 | 5 => 5 | n => n, fun | n => n⟩
theorem Tryd.lays169 : Go.Proofs.Lays.n169 Tryd.prog Tryd.lays169_ren := {
  mixed := by kernel_rfl
  f169 := Tryd.func113.trans (congrArg some (by kernel_rfl))
  t0 := Tryd.underlying0
  a0 := Tryd.isAgg0
  z0 := Tryd.sizeOf0
  v0 := Tryd.zeroValue0
  t3 := Tryd.underlying3
  a3 := Tryd.isAgg3
  z3 := Tryd.sizeOf3
  v3 := Tryd.zeroValue3
  t9 := Tryd.underlying9
  a9 := Tryd.isAgg9
  z9 := Tryd.sizeOf9
  v9 := Tryd.zeroValue9
  t37 := Tryd.underlying111
  a37 := Tryd.isAgg111
  z37 := Tryd.sizeOf111
  v37 := Tryd.zeroValue111
  t70 := Tryd.underlying110
  a70 := Tryd.isAgg110
  z70 := Tryd.sizeOf110
  v70 := Tryd.zeroValue110
  t72 := Tryd.underlying113
  a72 := Tryd.isAgg113
  z72 := Tryd.sizeOf113
  v72 := Tryd.zeroValue113
  t127 := Tryd.underlying141
  a127 := Tryd.isAgg141
  z127 := Tryd.sizeOf141
  v127 := Tryd.zeroValue141 }
theorem Tryd.Builder_Extra_169 : Builder.Extra Tryd.prog Tryd.lays169_ren := {
  sizeBuilder := by kernel_rfl
  liesBuilder := by kernel_rfl
  t5 := Tryd.underlying5
  a5 := Tryd.isAgg5
  z5 := Tryd.sizeOf5
  v5 := Tryd.zeroValue5
  infoByte := by kernel_rfl
  cellsByte := by kernel_rfl
  sizeByte := by kernel_rfl
  neB5 := by decide }
open Go.RowKit in
/-- (*strings.Builder).String: "String returns the accumulated string.": WHATEVER THE BUILDER HOLDS. (LAID: no walk: one application.) -/
theorem Tryd.Builder_String_any (B b : Nat) (l : List UInt8) (w : World) (h : Lib.IsBuilder 113 5 B b (Lib.byteCells l) w) (hBw : B ≤ w.heap.size) :
    Calls Tryd.prog 113 #[.pointer (some ⟨b, 0, none⟩)] w fun e w' => e = .returned (.string ⟨l.toArray⟩) ∧ Below B w w' := Any.Builder_String_any Tryd.lays169 Tryd.Builder_Extra_169 B b l w h hBw
def Tryd.lays283_ren : Go.Shelf.Ren := ⟨fun | 283 => 159 | n => n, fun | 3 => 3 | 9 => 9 | 4 => 4 | n => n, fun | n => n⟩
theorem Tryd.lays283 : Go.Proofs.Lays.n283 Tryd.prog Tryd.lays283_ren := {
  mixed := by kernel_rfl
  f283 := Tryd.func159.trans (congrArg some (by kernel_rfl))
  t3 := Tryd.underlying3
  a3 := Tryd.isAgg3
  z3 := Tryd.sizeOf3
  v3 := Tryd.zeroValue3
  t4 := Tryd.underlying4
  a4 := Tryd.isAgg4
  z4 := Tryd.sizeOf4
  v4 := Tryd.zeroValue4
  t9 := Tryd.underlying9
  a9 := Tryd.isAgg9
  z9 := Tryd.sizeOf9
  v9 := Tryd.zeroValue9 }
open Go.Lib in
/-- internal/strconv.small: "small returns the string for an i with 0 <= i < nSmalls.": i's decimal numeral. The world is as it was. (LAID: no walk: one application.) -/
theorem Tryd.internal_strconv_small (i : Nat) (h : i < 100) (w : World) :
    Calls Tryd.prog 159 #[.int .i64 i] w fun e w' => e = .returned (.string ⟨(Lib.decDigits i).toArray⟩) ∧ w' = w := Any.internal_strconv_small Tryd.lays283 i h w
def Tryd.laysM284_ren : Go.Shelf.Ren := ⟨fun | 284 => 160 | 129 => 177 | 317 => 176 | 318 => 178 | n => n, fun | 53 => 44 | 3 => 3 | 212 => 165 | 0 => 0 | 4 => 4 | 46 => 46 | 5 => 5 | 9 => 9 | n => n, fun | 17 => 0 | n => n⟩
theorem Tryd.laysM284 : Go.Proofs.LaysM.n284 Tryd.prog Tryd.laysM284_ren := {
  mixed := by kernel_rfl
  f129 := Tryd.func177.trans (congrArg some (by kernel_rfl))
  f284 := Tryd.func160.trans (congrArg some (by kernel_rfl))
  f317 := Tryd.func176.trans (congrArg some (by kernel_rfl))
  f318 := Tryd.func178.trans (congrArg some (by kernel_rfl))
  t0 := Tryd.underlying0
  a0 := Tryd.isAgg0
  z0 := Tryd.sizeOf0
  v0 := Tryd.zeroValue0
  t3 := Tryd.underlying3
  a3 := Tryd.isAgg3
  z3 := Tryd.sizeOf3
  v3 := Tryd.zeroValue3
  t4 := Tryd.underlying4
  a4 := Tryd.isAgg4
  z4 := Tryd.sizeOf4
  v4 := Tryd.zeroValue4
  t5 := Tryd.underlying5
  a5 := Tryd.isAgg5
  z5 := Tryd.sizeOf5
  v5 := Tryd.zeroValue5
  t9 := Tryd.underlying9
  a9 := Tryd.isAgg9
  z9 := Tryd.sizeOf9
  v9 := Tryd.zeroValue9
  t46 := Tryd.underlying46
  a46 := Tryd.isAgg46
  z46 := Tryd.sizeOf46
  v46 := Tryd.zeroValue46
  t53 := Tryd.underlying44
  a53 := Tryd.isAgg44
  z53 := Tryd.sizeOf44
  v53 := Tryd.zeroValue44
  t212 := Tryd.underlying165
  a212 := Tryd.isAgg165
  z212 := Tryd.sizeOf165
  v212 := Tryd.zeroValue165
  g17 := by kernel_rfl
  i0 := by kernel_rfl
  i3 := by kernel_rfl
  i4 := by kernel_rfl
  i5 := by kernel_rfl
  i9 := by kernel_rfl
  i46 := by kernel_rfl
  i53 := by kernel_rfl
  i212 := by kernel_rfl
  m17 := by kernel_rfl }
open Go.Lib in
/-- internal/strconv.numDigits, at a d that is not 0: THE NUMBER OF d's DECIMAL DIGITS. The world is as it was. (LAID: no walk: one application.) -/
theorem Tryd.internal_strconv_numDigits (u : Nat) (h1 : 1 ≤ u) (h2 : u < 18446744073709551616) (w : World) (htab : Lib.TabIs Tryd.prog w "internal/strconv.uint64pow10" .u64 Lib.pow10Tab) :
    Calls Tryd.prog 160 #[.int .u64 u] w fun e w' => e = .returned (.int .i64 (Lib.nDigits u)) ∧ w' = w := Any.internal_strconv_numDigits Tryd.laysM284 u h1 h2 w htab
def Tryd.lays285_ren : Go.Shelf.Ren := ⟨fun | 285 => 161 | n => n, fun | 37 => 111 | 53 => 44 | 3 => 3 | 4 => 4 | 51 => 33 | 9 => 9 | 5 => 5 | 0 => 0 | n => n, fun | n => n⟩
theorem Tryd.lays285 : Go.Proofs.Lays.n285 Tryd.prog Tryd.lays285_ren := {
  mixed := by kernel_rfl
  f285 := Tryd.func161.trans (congrArg some (by kernel_rfl))
  t0 := Tryd.underlying0
  a0 := Tryd.isAgg0
  z0 := Tryd.sizeOf0
  v0 := Tryd.zeroValue0
  t3 := Tryd.underlying3
  a3 := Tryd.isAgg3
  z3 := Tryd.sizeOf3
  v3 := Tryd.zeroValue3
  t4 := Tryd.underlying4
  a4 := Tryd.isAgg4
  z4 := Tryd.sizeOf4
  v4 := Tryd.zeroValue4
  t5 := Tryd.underlying5
  a5 := Tryd.isAgg5
  z5 := Tryd.sizeOf5
  v5 := Tryd.zeroValue5
  t9 := Tryd.underlying9
  a9 := Tryd.isAgg9
  z9 := Tryd.sizeOf9
  v9 := Tryd.zeroValue9
  t37 := Tryd.underlying111
  a37 := Tryd.isAgg111
  z37 := Tryd.sizeOf111
  v37 := Tryd.zeroValue111
  t51 := Tryd.underlying33
  a51 := Tryd.isAgg33
  z51 := Tryd.sizeOf33
  v51 := Tryd.zeroValue33
  t53 := Tryd.underlying44
  a53 := Tryd.isAgg44
  z53 := Tryd.sizeOf44
  v53 := Tryd.zeroValue44 }
open Go.RowKit Go.Sort Go.Lib in
/-- internal/strconv.formatBase10: "formatBase10 formats the decimal representation of u into a. The caller is responsible for ensuring that a is big enough to hold u. If a is too big, leading zeros will be filled in as needed.": THE ROW HOLDS u's DIGITS ('FmtInv .. 0 ..': every place t holds 'dg u (len - 1 - t)'); all else is as it was but for the count of draws. (LAID: no walk: one application.) -/
theorem Tryd.internal_strconv_formatBase10 (blk off cap : Nat) (u : Nat) (d : Array UInt8) (w : World) (hH : Holds (fun (b : UInt8) => Value.int .u8 (b.toNat : Int)) w blk off d) (hu : u < 10 ^ d.size) (hu64 : u < 18446744073709551616) (hsz : d.size < 4611686018427387904) :
    Calls Tryd.prog 161 #[.slice (some ⟨blk, off, none⟩) d.size cap, .int .u64 u] w fun e w' =>
      e = .returned (.tuple #[]) ∧ ∃ (n v' : Nat) (dk : Array UInt8), w' = (putRow (fun (b : UInt8) => Value.int .u8 (b.toNat : Int)) w blk off dk).drewN n ∧ FmtInv d.size u 0 v' dk := Any.internal_strconv_formatBase10 Tryd.lays285 blk off cap u d w hH hu hu64 hsz
def Tryd.laysM171_ren : Go.Shelf.Ren := ⟨fun | 171 => 96 | 243 => 139 | 246 => 158 | 283 => 159 | 284 => 160 | 285 => 161 | 286 => 162 | 129 => 177 | 317 => 176 | 318 => 178 | 319 => 179 | 320 => 143 | 337 => 164 | 338 => 165 | n => n, fun | 3 => 3 | 9 => 9 | 2 => 2 | 4 => 4 | 171 => 152 | 0 => 0 | 53 => 44 | 37 => 111 | 5 => 5 | 173 => 154 | 212 => 165 | 51 => 33 | 20 => 20 | 213 => 166 | 46 => 46 | 232 => 167 | 233 => 168 | n => n, fun | 17 => 0 | 18 => 1 | 19 => 2 | n => n⟩
theorem Tryd.laysM171 : Go.Proofs.LaysM.n171 Tryd.prog Tryd.laysM171_ren := {
  mixed := by kernel_rfl
  f129 := Tryd.func177.trans (congrArg some (by kernel_rfl))
  f171 := Tryd.func96.trans (congrArg some (by kernel_rfl))
  f243 := Tryd.func139.trans (congrArg some (by kernel_rfl))
  f246 := Tryd.func158.trans (congrArg some (by kernel_rfl))
  f283 := Tryd.func159.trans (congrArg some (by kernel_rfl))
  f284 := Tryd.func160.trans (congrArg some (by kernel_rfl))
  f285 := Tryd.func161.trans (congrArg some (by kernel_rfl))
  f286 := Tryd.func162.trans (congrArg some (by kernel_rfl))
  f317 := Tryd.func176.trans (congrArg some (by kernel_rfl))
  f318 := Tryd.func178.trans (congrArg some (by kernel_rfl))
  f319 := Tryd.func179.trans (congrArg some (by kernel_rfl))
  f320 := Tryd.func143.trans (congrArg some (by kernel_rfl))
  f337 := Tryd.func164.trans (congrArg some (by kernel_rfl))
  f338 := Tryd.func165.trans (congrArg some (by kernel_rfl))
  t0 := Tryd.underlying0
  a0 := Tryd.isAgg0
  z0 := Tryd.sizeOf0
  v0 := Tryd.zeroValue0
  t2 := Tryd.underlying2
  a2 := Tryd.isAgg2
  z2 := Tryd.sizeOf2
  v2 := Tryd.zeroValue2
  t3 := Tryd.underlying3
  a3 := Tryd.isAgg3
  z3 := Tryd.sizeOf3
  v3 := Tryd.zeroValue3
  t4 := Tryd.underlying4
  a4 := Tryd.isAgg4
  z4 := Tryd.sizeOf4
  v4 := Tryd.zeroValue4
  t5 := Tryd.underlying5
  a5 := Tryd.isAgg5
  z5 := Tryd.sizeOf5
  v5 := Tryd.zeroValue5
  t9 := Tryd.underlying9
  a9 := Tryd.isAgg9
  z9 := Tryd.sizeOf9
  v9 := Tryd.zeroValue9
  t20 := Tryd.underlying20
  a20 := Tryd.isAgg20
  z20 := Tryd.sizeOf20
  v20 := Tryd.zeroValue20
  t37 := Tryd.underlying111
  a37 := Tryd.isAgg111
  z37 := Tryd.sizeOf111
  v37 := Tryd.zeroValue111
  t46 := Tryd.underlying46
  a46 := Tryd.isAgg46
  z46 := Tryd.sizeOf46
  v46 := Tryd.zeroValue46
  t51 := Tryd.underlying33
  a51 := Tryd.isAgg33
  z51 := Tryd.sizeOf33
  v51 := Tryd.zeroValue33
  t53 := Tryd.underlying44
  a53 := Tryd.isAgg44
  z53 := Tryd.sizeOf44
  v53 := Tryd.zeroValue44
  t171 := Tryd.underlying152
  a171 := Tryd.isAgg152
  z171 := Tryd.sizeOf152
  v171 := Tryd.zeroValue152
  t173 := Tryd.underlying154
  a173 := Tryd.isAgg154
  z173 := Tryd.sizeOf154
  v173 := Tryd.zeroValue154
  t212 := Tryd.underlying165
  a212 := Tryd.isAgg165
  z212 := Tryd.sizeOf165
  v212 := Tryd.zeroValue165
  t213 := Tryd.underlying166
  a213 := Tryd.isAgg166
  z213 := Tryd.sizeOf166
  t232 := Tryd.underlying167
  a232 := Tryd.isAgg167
  z232 := Tryd.sizeOf167
  v232 := Tryd.zeroValue167
  t233 := Tryd.underlying168
  a233 := Tryd.isAgg168
  z233 := Tryd.sizeOf168
  v233 := Tryd.zeroValue168
  g17 := by kernel_rfl
  g18 := by kernel_rfl
  g19 := by kernel_rfl
  i0 := by kernel_rfl
  i2 := by kernel_rfl
  i3 := by kernel_rfl
  i4 := by kernel_rfl
  i5 := by kernel_rfl
  i9 := by kernel_rfl
  i20 := by kernel_rfl
  i37 := by kernel_rfl
  i46 := by kernel_rfl
  i51 := by kernel_rfl
  i53 := by kernel_rfl
  i171 := by kernel_rfl
  i173 := by kernel_rfl
  i212 := by kernel_rfl
  i232 := by kernel_rfl
  i233 := by kernel_rfl
  m17 := by kernel_rfl
  m18 := by kernel_rfl
  m19 := by kernel_rfl }
open Go.RowKit Go.Sort Go.Lib in
/-- strconv.Itoa: "Itoa is equivalent to FormatInt(int64(i), 10).": i's DECIMAL NUMERAL ('Lib.itoa': a '-' where i is negative, then the digits), FOR EVERY int. The world behind the call: the world before it, new blocks behind the heap (the library's 'var a [24]byte'), draws. (LAID: no walk: one application.) -/
theorem Tryd.strconv_Itoa (n : Int) (h0 : -9223372036854775808 ≤ n) (h1 : n ≤ 9223372036854775807) (w : World) (htab : Lib.TabIs Tryd.prog w "internal/strconv.uint64pow10" .u64 Lib.pow10Tab) :
    Calls Tryd.prog 96 #[.int .i64 n] w fun e w' => e = .returned (.string ⟨(Lib.itoa n).toArray⟩) ∧ ∃ k os, w' = grow (w.drewN k) os := Any.strconv_Itoa Tryd.laysM171 n h0 h1 w htab
end Go.Proofs
/- Numerals: the library's contract, as one of ours. -/
set_option linter.unusedVariables false
set_option linter.unusedSimpArgs false
namespace Go.Ev.D
open Go.Proofs
theorem pow_tab {S : Stab} {w : World} (h : Tab S w) : Lib.TabIs Tryd.prog w "internal/strconv.uint64pow10" .u64 Lib.pow10Tab := by
  have h0 := fun o => (h.1 (0, Lib.pow10Tab.map fun z => Value.int .u64 z) (List.mem_cons_self ..) o).2
  have hg : Tryd.prog.globalNamed "internal/strconv.uint64pow10" = some 0 := by kernel_rfl
  unfold Lib.TabIs World.var?
  rw [hg]
  simp only [Option.bind_some]
  have h1 := h0 0
  have e1 : (Lib.pow10Tab.map fun z => Value.int IntKind.u64 z)[0]? = some (.int .u64 1) := by simp [Lib.pow10Tab]
  simp only at h0 h1
  rw [e1] at h1
  cases hb : w.heap[0]? with
  | none => simp [World.cell?, hb] at h1
  | some o =>
    cases o with
    | cells cs t fr =>
      simp only
      congr 1
      apply Array.ext_getElem?
      intro i
      have := h0 i
      simp only [World.cell?, hb] at this
      simpa using this
    | _ => simp [World.cell?, hb] at h1
def itoaC : Ctr := { args := [.int .i64], res := [.str], pre := none, fn := fun (x : Int) => itoaF x }
theorem itoa_ok : CtrOK Tryd.prog 96 itoaC := by
  refine ⟨⟨_, fnOf_eq (by kernel_rfl), by kernel_rfl, by kernel_rfl⟩, ?_⟩
  intro w S us (x : Int) hS hT henc _
  obtain ⟨cs, h1, rfl⟩ := henc
  obtain ⟨rfl, h2⟩ : cs = [.int .i64 x] ∧ IntKind.i64.has x := h1
  rw [has_i64] at h2
  refine (Tryd.strconv_Itoa x h2.1 h2.2 w (pow_tab hT)).mono ?_
  rintro e w' ⟨rfl, k, os, rfl⟩
  refine ⟨_, rfl, ⟨rfl, rfl, rfl, by simp [Go.Sort.grow], fun k hk => by simp [Go.Sort.grow, Array.getElem?_append_left hk]⟩, fun _ _ => False, fun _ _ h => h.elim, [_], ⟨[.string ⟨⟨itoaF x⟩⟩], ⟨rfl, by have := itoaF_len x; show (itoaF x).length ≤ maxStr; unfold maxStr; omega⟩, rfl⟩, ?_⟩
  rw [itoa_eq h2.1 h2.2]
  rfl
end Go.Ev.D
/- FormatUint at base ten: the code of the library, beside the evaluator. -/
set_option linter.unusedVariables false
set_option linter.unusedSimpArgs false
namespace Go.Ev.D
open Go.Proofs Go.Conc Go.Sort Go.Lib
theorem natT_dec {u : Nat} (h : u < 18446744073709551616) : Lib.decDigits u = natT u := decDigits_digN 20 u (by omega) (by omega)
theorem natT_len (u : Nat) : (natT u).length ≤ 20 := digN_len 20 u
def smallC : Ctr := { args := [.int .i64], res := [.str], pre := some (fun (x : Int) => 0 ≤ x ∧ x < 100), fn := fun (x : Int) => natT x.toNat }
theorem small_ok : CtrOK Tryd.prog 159 smallC := by
  refine ⟨⟨_, fnOf_eq (by kernel_rfl), by kernel_rfl, by kernel_rfl⟩, ?_⟩
  intro w S us (x : Int) hS hT henc hpre
  obtain ⟨h0, h1⟩ : 0 ≤ x ∧ x < 100 := hpre _ rfl
  obtain ⟨cs, h2, rfl⟩ := henc
  obtain ⟨rfl, h3⟩ : cs = [.int .i64 x] ∧ IntKind.i64.has x := h2
  obtain ⟨i, rfl⟩ := Int.eq_ofNat_of_zero_le h0
  refine (Tryd.internal_strconv_small i (by omega) w).mono ?_
  rintro e w' ⟨rfl, rfl⟩
  refine ⟨_, rfl, Grows.refl _, fun _ _ => False, fun _ _ h => h.elim, [_], ⟨[.string ⟨⟨natT i⟩⟩], ⟨rfl, by have := natT_len i; show (natT i).length ≤ maxStr; unfold maxStr; omega⟩, rfl⟩, ?_⟩
  rw [natT_dec (by omega)]
  rfl
def ndC : Ctr := { args := [.int .u64], res := [.int .i64], pre := some (fun (x : Int) => 1 ≤ x), fn := fun (x : Int) => (Lib.nDigits x.toNat : Int) }
theorem nd_small {u : Nat} (h1 : 1 ≤ u) (h2 : u < 18446744073709551616) : Lib.nDigits u ≤ 20 := by
  have := Lib.numDigits_eq u h1 h2
  split at this <;> omega
theorem nd_ok : CtrOK Tryd.prog 160 ndC := by
  refine ⟨⟨_, fnOf_eq (by kernel_rfl), by kernel_rfl, by kernel_rfl⟩, ?_⟩
  intro w S us (x : Int) hS hT henc hpre
  have h1 : 1 ≤ x := hpre _ rfl
  obtain ⟨cs, h2, rfl⟩ := henc
  obtain ⟨rfl, h3⟩ : cs = [.int .u64 x] ∧ IntKind.u64.has x := h2
  rw [has_u64] at h3
  obtain ⟨u, rfl⟩ := Int.eq_ofNat_of_zero_le h3.1
  have h4 := nd_small (u := u) (by omega) (by omega)
  refine (Tryd.internal_strconv_numDigits u (by omega) (by omega) w (pow_tab hT)).mono ?_
  rintro e w' ⟨rfl, rfl⟩
  exact ⟨_, rfl, Grows.refl _, fun _ _ => False, fun _ _ h => h.elim, [_], ⟨[.int .i64 (Lib.nDigits u)], ⟨rfl, by show IntKind.i64.has (Lib.nDigits u : Int); rw [has_i64]; omega⟩, rfl⟩, rfl⟩
noncomputable def fuC : Code := rThen (rNth (bodyOf (fnOf Tryd.prog 140)) 2)
noncomputable def fuB (i : Nat) : Code := rNth (bodyOf (fnOf Tryd.prog 140)) i
noncomputable def fuI (i : Nat) : Code := rNth fuC i
def fuG : List (Nat × Ctr) := [(159, smallC), (160, ndC)]
theorem fuG_ok : CtrsOK Tryd.prog (fun f => lk f fuG) := ctrs_cons small_ok (ctrs_cons nd_ok ctrs_nil)
@[reducible] def fuT1 : List (Nat × Sh) := [(0, .val (.int .u64)), (10, .val .bool)]
@[reducible] def fuT0 : List (Nat × Sh) := [(0, .val (.int .u64))]
@[reducible] def fuT6 : List (Nat × Sh) := [(0, .val (.int .u64)), (6, .val (.int .i64))]
@[reducible] def fuT18 : List (Nat × Sh) := [(0, .val (.int .u64)), (6, .val (.int .i64)), (18, .val (.int .i64))]
@[reducible] def fuT20 : List (Nat × Sh) := [(6, .val (.int .i64)), (20, .val (.int .u64))]
@[reducible] def fuT22 : List (Nat × Sh) := [(22, .val (.int .i64))]
theorem fu0_tree : (fun x : Int × Int => pieceT (mkC tys [] []) (fnOf Tryd.prog 140) [.str] fuT1 [] [fuB 0, fuB 1] { tmps := number 0 (resL [.int .u64, .int .i64] x), boxes := [] }) =
  (fun x => Tree.leaf (none, some ((x.1, x.2 == (10 : Int), ()), ()))) := by kernel_rfl
theorem fu2_tree : (fun x : (Int × Unit) × Unit => pieceT (mkC tys fuG []) (fnOf Tryd.prog 140) [.str] fuT0 [] [fuI 0, fuI 1] (mkS fuT0 [] x)) =
  (fun x =>
    Tree.br (decide (x.1.1 < (100 : Int)))
      (Tree.need ((0 : Int) ≤ IntKind.wrap IntKind.i64 x.1.1 ∧ IntKind.wrap IntKind.i64 x.1.1 < (100 : Int)) (Tree.leaf (some (natT (Int.toNat (IntKind.wrap IntKind.i64 x.1.1))), none)))
      (Tree.leaf (none, some ((x.1.1, ()), ())))) := by kernel_rfl
theorem fu5_tree : (fun x : (Int × Unit) × Unit => pieceT (mkC tys fuG []) (fnOf Tryd.prog 140) [.str] fuT6 [] [fuI 3] (mkS fuT0 [] x)) =
  (fun x => Tree.need ((1 : Int) ≤ x.1.1) (Tree.leaf (none, some ((x.1.1, (↑(nDigits (Int.toNat x.1.1)) : Int), ()), ())))) := by kernel_rfl
theorem fu6_tree : (fun x : (Int × Int × Unit) × Unit => opsT (mkC tys [] []) fuT18 [] [rOp (fuI 4) 0] (mkS fuT6 [] x)) =
  (fun x => Tree.leaf (some ((x.1.1, x.1.2.1, x.1.2.1, ()), ()))) := by kernel_rfl
theorem fu7_tree : (fun x : (Int × Int × Int × Unit) × Unit => opsT (mkC tys [] []) fuT20 [] [rOp (fuI 4) 2] (mkS fuT18 [] x)) =
  (fun x => Tree.leaf (some ((x.1.2.1, x.1.1, ()), ()))) := by kernel_rfl
theorem fu8_tree : (fun x : (Int × Int × Unit) × Unit => opsT (mkC tys [] []) fuT22 [] [rOp (fuI 5) 0] (mkS fuT20 [] x)) =
  (fun x => Tree.leaf (some ((x.1.1, ()), ()))) := by kernel_rfl
theorem fu9_tree : (fun x : (List UInt8 × Unit) × Unit => opsT (mkC tys [] []) [(4, .val .str)] [] [rOp (fuI 5) 3] (mkS [(24, .val .str)] [] x)) =
  (fun x => Tree.leaf (some ((x.1.1, ()), ()))) := by kernel_rfl
end Go.Ev.D
/- FormatUint at base ten keeps its contract. -/
set_option linter.unusedVariables false
set_option linter.unusedSimpArgs false
namespace Go.Ev.D
open Go.Proofs Go.Conc Go.Sort Go.Lib
theorem fu_all : seqs (bodyOf (fnOf Tryd.prog 140)) = [fuB 0, fuB 1, fuB 2, fuB 3, fuB 4, fuB 5] := by kernel_rfl
theorem fu_2 : fuB 2 = .cond (.tmp 10) fuC .skip := by kernel_rfl
theorem fu_in : seqs fuC = [fuI 0, fuI 1, fuI 2, fuI 3, fuI 4, fuI 5, fuI 6] := by kernel_rfl
theorem fu_i2 : fuI 2 = .region 4 (rOps (fuI 2)) false := by kernel_rfl
theorem fu_i4 : fuI 4 = .region 6 (rOps (fuI 4)) false := by kernel_rfl
theorem fu_i5 : fuI 5 = .region 7 (rOps (fuI 5)) false := by kernel_rfl
theorem fu_i6 : fuI 6 = .ret := by kernel_rfl
theorem fu_n : (fnOf Tryd.prog 140).ntmps = 32 := by kernel_rfl
theorem fb_body : (fnOf Tryd.prog 161).body.isNone = false := by kernel_rfl
theorem fb_name : ((fnOf Tryd.prog 161).name == "runtime.NumGoroutine") = false := by kernel_rfl
theorem fb_fn : Tryd.prog.funcs[161]? = some (fnOf Tryd.prog 161) := fnOf_eq (by kernel_rfl)
theorem fu_arr : tys 152 = some ⟨.arr 24 (.int .u8), 0, 24, 0⟩ := by kernel_rfl
theorem fu_len : Tryd.prog.arrayLen 152 = 24 := by kernel_rfl
theorem fu_elem : Tryd.prog.elem 152 = 5 := by kernel_rfl
theorem fu_under : Tryd.prog.underlying 152 = some (.array (Tryd.prog.arrayLen 152) (Tryd.prog.elem 152)) := by kernel_rfl
theorem fu_zero : (zeroCells (.arr 24 (.int .u8))).toArray = Array.replicate 24 (Value.int .u8 0) := by kernel_rfl
attribute [local irreducible] fnOf bodyOf
abbrev encB : UInt8 → Value := fun (b : UInt8) => Value.int .u8 (b.toNat : Int)
theorem fu_slice {c nd : Nat} (h : nd ≤ 24) (w : World) : (Instr.sliceAt 152 (.pointer (some ⟨c, 0, none⟩)) none (some (.int .i64 (nd : Int))) none).run Tryd.prog w = .ok (.slice (some ⟨c, 0, none⟩) nd 24) w := by
  rw [run_sliceAt_array_h (t := 152) (a := ⟨c, 0, none⟩) (w := w) fu_under .i64 (nd : Int) (by omega) (by rw [fu_len]; omega), fu_elem]
  simp [Tryd.sizeOf5, slicedAt, fu_len, Addr.add_lit]
theorem put_heap (w : World) (c n : Nat) (d : Array UInt8) (k : Nat) (h : k ≠ c) : ((putRow encB w c 0 d).drewN n).heap[k]? = w.heap[k]? := by
  show (putRow encB w c 0 d).heap[k]? = _
  unfold putRow mapBlock
  simp only [Array.getElem?_modify]
  rw [if_neg (fun e => h e.symm)]
def fuintC : Ctr := { args := [.int .u64, .int .i64], res := [.str], pre := some (fun (x : Int × Int) => x.2 = 10), fn := fun (x : Int × Int) => natT x.1.toNat }
theorem fuint_ok : CtrOK Tryd.prog 140 fuintC :=
  ctr_of_to (C := mkC tys fuG []) tysOK (by kernel_rfl) (by kernel_rfl) (by kernel_rfl) (fun x => by rw [fu_n]; show 2 ≤ 32; omega) fun R0 b (x : Int × Int) a0 hbk hw hp h0 hsz0 hd0 => by
    obtain ⟨n, base⟩ := x
    have hb : base = 10 := hp _ rfl
    subst hb
    have hn : IntKind.u64.has n := hw.1
    rw [has_u64] at hn
    obtain ⟨u, rfl⟩ := Int.eq_ofNat_of_zero_le hn.1
    have hu : u < 18446744073709551616 := by omega
    show LTo Tryd.prog b _ (finQ (mkC tys fuG []) (fnOf Tryd.prog 140) [.str] R0 (natT u)) a0 R0.w0
    rw [fu_n] at hsz0
    rw [fu_all]
    have k0 := Kd.start (W := fun _ => none) (n := 32) (sl := []) h0 hsz0 hd0 (fun _ h => by cases h)
    show LTo Tryd.prog b ([fuB 0, fuB 1] ++ [fuB 2, fuB 3, fuB 4, fuB 5]) _ a0 R0.w0
    refine k0.piece (C := mkC tys [] []) tysOK ctrs_nil mixed (fn := fnOf Tryd.prog 140) (res := [.str]) (ts := fuT1) (bs := []) (G := fun x => x = (none, some (((u : Int), true, ()), ()))) (by kernel_rfl) (by kernel_rfl) ?_ ?_ ?_ ?_
    · show (pieceT (mkC tys [] []) (fnOf Tryd.prog 140) [.str] fuT1 [] [fuB 0, fuB 1] { tmps := number 0 (resL [.int .u64, .int .i64] ((u : Int), (10 : Int))), boxes := [] }).holds _
      rw [congrFun fu0_tree ((u : Int), (10 : Int))]; rfl
    · intro y s' a' w' hy; cases hy
    · intro x a1 w1 hx k1
      simp only [Prod.mk.injEq, Option.some.injEq, true_and] at hx
      subst hx
      refine LTo.cons ?_
      rw [fu_2]
      refine CodeTo.cond (t := true) (k1.old.bool rfl) ?_
      rw [if_pos rfl]
      have k2 := k1.restr (L := { prom := [], keep := fuT0.map (·.1), boxes := [], sum := fun _ => .stuck }) (s' := mkS fuT0 [] (((u : Int), ()), ())) (by kernel_rfl)
      refine CodeTo.seqs ?_
      rw [fu_in]
      show LTo Tryd.prog b ([fuI 0, fuI 1] ++ [fuI 2, fuI 3, fuI 4, fuI 5, fuI 6]) _ a1 w1
      refine k2.piece (C := mkC tys fuG []) tysOK fuG_ok mixed (fn := fnOf Tryd.prog 140) (res := [.str]) (ts := fuT0) (bs := []) (G := fun x => x = (some (natT u), none) ∨ x = (none, some (((u : Int), ()), ())) ∧ 100 ≤ u) (by kernel_rfl) (by kernel_rfl) ?_ ?_ ?_ ?_
      · rw [congrFun fu2_tree (((u : Int), ()), ())]
        simp only [Tree.holds]
        have e : ∀ h : u < 100, IntKind.wrap IntKind.i64 (u : Int) = u := fun h => i64_id (by omega) (by omega)
        refine ⟨fun h => ?_, fun h => .inr ⟨trivial, ?_⟩⟩
        · have h' : (u : Int) < 100 := of_decide_eq_true h
          rw [e (by omega)]
          exact ⟨⟨by omega, by omega⟩, .inl rfl⟩
        · have h' : ¬ (u : Int) < 100 := of_decide_eq_false h
          omega
      · intro y s' a' w' hy j1 j2 j3
        rcases hy with hy | ⟨hy, _⟩
        · simp only [Prod.mk.injEq, Option.some.injEq, and_true] at hy
          rw [hy] at j3
          exact ⟨.inr rfl, j2, s', j1, j3⟩
        · cases hy
      · intro x a2 w2 hx k3
        rcases hx with hx | ⟨hx, hu100⟩
        · cases hx
        simp only [Prod.mk.injEq, Option.some.injEq, true_and] at hx
        subst hx
        have hnd := nd_small (u := u) (by omega) hu
        refine LTo.cons ?_
        rw [fu_i2]
        refine CodeTo.region ?_
        rw [show List.range (rOps (fuI 2)).size = [0] by kernel_rfl]
        refine RegTo.value (o := rOp (fuI 2) 0) (v := .pointer (some ⟨w2.heap.size, 0, none⟩)) (w' := w2.alloc (.cells (Array.replicate 24 (Value.int .u8 0)) 152)) (by kernel_rfl) (by kernel_rfl) ?_ ?_
        · have := alloc_run (P := Tryd.prog) (τ := tys) tysOK fu_arr w2
          rw [fu_zero] at this
          unfold execOp
          rw [show (rOp (fuI 2) 0).op = .alloc 152 by kernel_rfl]
          simp [this]
        rw [show (rOp (fuI 2) 0).dst = some 5 by kernel_rfl]
        have hnew := heap_alloc_new w2 (.cells (Array.replicate 24 (Value.int .u8 0)) 152)
        have k4 := (k3.world (K' := fun k => k = w2.heap.size) (W' := fun _ => some (.cells (Array.replicate 24 (Value.int .u8 0)) 152 (0, 0))) (w' := w2.alloc (.cells (Array.replicate 24 (Value.int .u8 0)) 152)) (fun k hk => .inr (by omega)) (fun k hk => by rw [hk]; exact (Array.getElem?_eq_some_iff.1 hnew).1) (fun k hk => by rw [hk]; exact hnew) rfl rfl rfl (by simp) (fun k hk _ => (Grows.alloc w2 _).block k hk)).keep (k := 5) (v := .pointer (some ⟨w2.heap.size, 0, none⟩)) rfl (by omega) (by simp)
        generalize a2.put (some 5) (.pointer (some ⟨w2.heap.size, 0, none⟩)) = a3 at k4 ⊢
        generalize w2.alloc (.cells (Array.replicate 24 (Value.int .u8 0)) 152) = w3 at k4 ⊢
        generalize w2.heap.size = c at k4
        refine RegTo.nil ?_
        show LTo Tryd.prog b ([fuI 3] ++ [fuI 4, fuI 5, fuI 6]) _ a3 w3
        refine k4.piece (C := mkC tys fuG []) tysOK fuG_ok mixed (fn := fnOf Tryd.prog 140) (res := [.str]) (ts := fuT6) (bs := []) (G := fun x => x = (none, some (((u : Int), (Lib.nDigits u : Int), ()), ()))) (by kernel_rfl) (by kernel_rfl) ?_ ?_ ?_ ?_
        · rw [congrFun fu5_tree (((u : Int), ()), ())]
          exact ⟨(by omega : (1 : Int) ≤ u), rfl⟩
        · intro y s' a' w' hy; cases hy
        · intro x a4 w4 hx k5
          simp only [Prod.mk.injEq, Option.some.injEq, true_and] at hx
          subst hx
          refine LTo.cons ?_
          rw [fu_i4]
          refine CodeTo.region ?_
          rw [show List.range (rOps (fuI 4)).size = [0, 1, 2, 3] by kernel_rfl]
          show RegTo Tryd.prog b _ ([0] ++ [1, 2, 3]) _ _ _
          refine k5.opsL (C := mkC tys [] []) tysOK ctrs_nil (ts := fuT18) (bs := []) (G := fun x => x = some (((u : Int), (Lib.nDigits u : Int), (Lib.nDigits u : Int), ()), ())) [0] (by kernel_rfl) (by kernel_rfl) ?_ ?_ (fun h => by cases h)
          · show (opsT (mkC tys [] []) fuT18 [] [rOp (fuI 4) 0] (mkS fuT6 [] (((u : Int), (Lib.nDigits u : Int), ()), ()))).holds _
            rw [congrFun fu6_tree _]; rfl
          · intro x a5 w5 hx k6
            simp only [Option.some.injEq] at hx
            subst hx
            have h5 : a5.eval (.tmp 5) = .pointer (some ⟨c, 0, none⟩) := k6.slots (5, .pointer (some ⟨c, 0, none⟩)) (by simp)
            have h18 : a5.eval (.tmp 18) = .int .i64 (Lib.nDigits u) := known_i64 k6.old rfl
            refine RegTo.value (o := rOp (fuI 4) 1) (v := .slice (some ⟨c, 0, none⟩) (Lib.nDigits u) 24) (w' := w5) (by kernel_rfl) (by kernel_rfl) ?_ ?_
            · unfold execOp
              rw [show (rOp (fuI 4) 1).op = .slice 152 (.tmp 5) none (some (.tmp 18)) none by kernel_rfl]
              simp [h5, h18, fu_slice (by omega : Lib.nDigits u ≤ 24) w5]
            rw [show (rOp (fuI 4) 1).dst = some 19 by kernel_rfl]
            have k7 := k6.keep (k := 19) (v := .slice (some ⟨c, 0, none⟩) (Lib.nDigits u) 24) rfl (by omega) (by simp)
            generalize a5.put (some 19) (.slice (some ⟨c, 0, none⟩) (Lib.nDigits u) 24) = a6 at k7 ⊢
            show RegTo Tryd.prog b _ ([2] ++ [3]) _ _ _
            refine k7.opsL (C := mkC tys [] []) tysOK ctrs_nil (ts := fuT20) (bs := []) (G := fun x => x = some (((Lib.nDigits u : Int), (u : Int), ()), ())) [2] (by kernel_rfl) (by kernel_rfl) ?_ ?_ (fun h => by cases h)
            · show (opsT (mkC tys [] []) fuT20 [] [rOp (fuI 4) 2] (mkS fuT18 [] (((u : Int), (Lib.nDigits u : Int), (Lib.nDigits u : Int), ()), ()))).holds _
              rw [congrFun fu7_tree _]; rfl
            · intro x a7 w7 hx k8
              simp only [Option.some.injEq] at hx
              subst hx
              have h19 : a7.eval (.tmp 19) = .slice (some ⟨c, 0, none⟩) (Lib.nDigits u) 24 := k8.slots (19, .slice (some ⟨c, 0, none⟩) (Lib.nDigits u) 24) (by simp)
              have h20 : a7.eval (.tmp 20) = .int .u64 (u : Int) := known_u64 k8.old rfl
              have hc7 := k8.heap (k := c) rfl
              have hH : Holds encB w7 c 0 (Array.replicate (Lib.nDigits u) (0 : UInt8)) := fun j hj => by
                have hj' : j < Lib.nDigits u := by simpa using hj
                refine ⟨?_, by simp [World.frozen?, hc7]⟩
                rw [getElem!_pos _ j hj]
                simp [World.cell?, hc7, Array.getElem?_replicate, show j < 24 by omega]
              have hcall := Tryd.internal_strconv_formatBase10 c 0 24 u (Array.replicate (Lib.nDigits u) 0) w7 hH (by rw [Array.size_replicate]; exact Lib.lt_pow_nDigits u) hu (by rw [Array.size_replicate]; omega)
              rw [Array.size_replicate] at hcall
              refine k8.call (o := rOp (fuI 4) 3) (x := .func 161) (ar := #[.tmp 19, .tmp 20]) (ts := #[111, 44]) (f := 161) (caps := #[]) (args := #[.slice (some ⟨c, 0, none⟩) (Lib.nDigits u) 24, .int .u64 u]) (by kernel_rfl) (by kernel_rfl) (by kernel_rfl) rfl (by simp [h19, h20]) fb_fn fb_body fb_name hcall ?_
              rintro e w8 ⟨rfl, k, v', dk, rfl, hF⟩
              refine ⟨_, fun k => k = c, fun i => ((putRow encB w7 c 0 dk).drewN k).heap[i]?, rfl, fun i hi => .inl hi, fun i hi => ?_, fun _ _ => rfl, rfl, rfl, rfl, ?_, fun i hi hne => put_heap w7 c k dk i hne, fun k9 => ?_⟩
              · rw [hi]
                show c < ((putRow encB w7 c 0 dk).drewN k).heap.size
                have := (Array.getElem?_eq_some_iff.1 hc7).1
                simpa using this
              · simp
              have hcv : ∀ j (hj : j < (natT u).length), ((putRow encB w7 c 0 dk).drewN k).cell? ⟨c, 0 + j, none⟩ = some (.int .u8 ((natT u)[j].toNat : Int)) := by
                rw [← natT_dec hu]
                intro j hj
                rw [Lib.row_is_numeral hF j hj, World.cell?_drewN]
                exact cell?_putRow encB _ c 0 _ dk hH (by rw [hF.size, Array.size_replicate]) j (by rw [hF.size]; rw [Lib.decDigits_length] at hj; exact hj)
              generalize (putRow encB w7 c 0 dk).drewN k = w8 at k9 hcv ⊢
              rw [show (rOp (fuI 4) 3).dst = some 21 by kernel_rfl]
              have k10 := (k9.keep (k := 21) (v := .tuple #[]) rfl (by omega) (by simp)).less (sl' := [(5, .pointer (some ⟨c, 0, none⟩))]) (fun p hp => by simp at hp ⊢; simp [hp])
              generalize a7.put (some 21) (.tuple #[]) = a8 at k10 ⊢
              refine RegTo.nil ?_
              refine LTo.cons ?_
              rw [fu_i5]
              refine CodeTo.region ?_
              rw [show List.range (rOps (fuI 5)).size = [0, 1, 2, 3] by kernel_rfl]
              show RegTo Tryd.prog b _ ([0] ++ [1, 2, 3]) _ _ _
              refine k10.opsL (C := mkC tys [] []) tysOK ctrs_nil (ts := fuT22) (bs := []) (G := fun x => x = some (((Lib.nDigits u : Int), ()), ())) [0] (by kernel_rfl) (by kernel_rfl) ?_ ?_ (fun h => by cases h)
              · show (opsT (mkC tys [] []) fuT22 [] [rOp (fuI 5) 0] (mkS fuT20 [] (((Lib.nDigits u : Int), (u : Int), ()), ()))).holds _
                rw [congrFun fu8_tree _]; rfl
              · intro x a9 w9 hx k11
                simp only [Option.some.injEq] at hx
                subst hx
                have h5' : a9.eval (.tmp 5) = .pointer (some ⟨c, 0, none⟩) := k11.slots (5, .pointer (some ⟨c, 0, none⟩)) (by simp)
                have h22 : a9.eval (.tmp 22) = .int .i64 (Lib.nDigits u) := known_i64 k11.old rfl
                refine RegTo.value (o := rOp (fuI 5) 1) (v := .slice (some ⟨c, 0, none⟩) (Lib.nDigits u) 24) (w' := w9) (by kernel_rfl) (by kernel_rfl) ?_ ?_
                · unfold execOp
                  rw [show (rOp (fuI 5) 1).op = .slice 152 (.tmp 5) none (some (.tmp 22)) none by kernel_rfl]
                  simp [h5', h22, fu_slice (by omega : Lib.nDigits u ≤ 24) w9]
                rw [show (rOp (fuI 5) 1).dst = some 23 by kernel_rfl]
                have k12 := k11.keep (k := 23) (v := .slice (some ⟨c, 0, none⟩) (Lib.nDigits u) 24) rfl (by omega) (by simp)
                generalize a9.put (some 23) (.slice (some ⟨c, 0, none⟩) (Lib.nDigits u) 24) = a10 at k12 ⊢
                have h23 : a10.eval (.tmp 23) = .slice (some ⟨c, 0, none⟩) (Lib.nDigits u) 24 := k12.slots (23, .slice (some ⟨c, 0, none⟩) (Lib.nDigits u) 24) (by simp)
                have hle : Lib.nDigits u = (natT u).length := by rw [← natT_dec hu, Lib.decDigits_length]
                refine RegTo.value (o := rOp (fuI 5) 2) (v := .string ⟨⟨natT u⟩⟩) (w' := w9) (by kernel_rfl) (by kernel_rfl) ?_ ?_
                · have := run_convert_bytes_back (P := Tryd.prog) w9 111 9 5 ⟨c, 0, none⟩ 24 (natT u) Tryd.underlying111 Tryd.underlying5 Tryd.underlying9 (fun j hj => by
                    rw [Lib.add_plain, cell_of_heap (k11.heap (k := c) rfl)]
                    exact hcv j hj)
                  rw [← hle] at this
                  unfold execOp
                  rw [show (rOp (fuI 5) 2).op = .convert 111 9 (.tmp 23) by kernel_rfl]
                  simp [h23, this]
                rw [show (rOp (fuI 5) 2).dst = some 24 by kernel_rfl]
                have hmax : (natT u).length ≤ maxStr := by have := natT_len u; unfold maxStr; omega
                have k13 := ((k12.known (k := 24) (v := .string ⟨⟨natT u⟩⟩) (av := .val .str (natT u)) (fun M => ⟨_, ⟨rfl, hmax⟩, rfl⟩) (by omega) (by simp)).less (sl' := []) (fun p hp => by cases hp)).restr (L := { prom := [], keep := [24], boxes := [], sum := fun _ => .stuck }) (s' := mkS [(24, .val .str)] [] ((natT u, ()), ())) (by kernel_rfl)
                generalize a10.put (some 24) (.string ⟨⟨natT u⟩⟩) = a11 at k13 ⊢
                show RegTo Tryd.prog b _ ([3] ++ []) _ _ _
                refine k13.opsL (C := mkC tys [] []) tysOK ctrs_nil (ts := [(4, .val .str)]) (bs := []) (G := fun x => x = some ((natT u, ()), ())) [3] (by kernel_rfl) (by kernel_rfl) ?_ ?_ (fun h => by cases h)
                · show (opsT (mkC tys [] []) [(4, .val .str)] [] [rOp (fuI 5) 3] (mkS [(24, .val .str)] [] ((natT u, ()), ()))).holds _
                  rw [congrFun fu9_tree _]; rfl
                · intro x a12 w12 hx k14
                  simp only [Option.some.injEq] at hx
                  subst hx
                  refine RegTo.nil ?_
                  refine LTo.cons ?_
                  rw [fu_i6]
                  refine then_id (CodeTo.of_wp (wp_ret ?_))
                  refine ⟨.inr rfl, k14.defers, _, k14.old, ?_⟩
                  have : evRes (mkC tys fuG []) (fnOf Tryd.prog 140) [.str] (.normal, mkS [(4, .val .str)] [] ((natT u, ()), ())) = .leaf (natT u) := by kernel_rfl
                  rw [this]
                  rfl
        · intro h; cases h
      · rintro (h | ⟨h, _⟩) <;> cases h
    · intro h; cases h
def sfuintG : List (Nat × Ctr) := [(140, fuintC)]
theorem sfuintG_ok : CtrsOK Tryd.prog (fun f => lk f sfuintG) := (ctrs_cons fuint_ok ctrs_nil)
def sfuintC : Ctr := { args := [.int .u64, .int .i64], res := [.str], pre := some (fun (x : Int × Int) => x.2 = 10), fn := fun (x : Int × Int) => natT x.1.toNat }
theorem sfuint_tree : (fun x : Int × Int => evFn (mkC tys sfuintG []) (fnOf Tryd.prog 103) (resL sfuintC.args x) sfuintC.res) =
  (fun x => Tree.need (x.2 = (10 : Int)) (Tree.leaf (natT (Int.toNat x.1)))) := by kernel_rfl
theorem sfuint_ok : CtrOK Tryd.prog 103 sfuintC :=
  fun_ok (G := sfuintG) (Λ := []) tysOK sfuintG_ok mixed (by kernel_rfl) (by kernel_rfl) (by kernel_rfl) (by kernel_rfl) lp_nil fun (x : Int × Int) hw hp => by
    rw [congrFun sfuint_tree x]
    have h : x.2 = 10 := hp _ rfl
    exact ⟨h, rfl⟩
end Go.Ev.D
/- The laying of a builder's WriteString at this seat. -/
namespace Go.Proofs
open Go.Shelf
def Tryd.lays166_ren : Go.Shelf.Ren := ⟨fun | 166 => 112 | 240 => 142 | 276 => 163 | n => n, fun | 0 => 0 | 3 => 3 | 4 => 4 | 9 => 9 | 20 => 20 | 37 => 111 | 70 => 110 | 72 => 113 | 75 => 115 | 80 => 118 | 164 => 156 | 5 => 5 | n => n, fun | n => n⟩
theorem Tryd.lays166 : Go.Proofs.Lays.n166 Tryd.prog Tryd.lays166_ren := {
  mixed := by kernel_rfl
  f166 := Tryd.func112.trans (congrArg some (by kernel_rfl))
  f240 := Tryd.func142.trans (congrArg some (by kernel_rfl))
  f276 := Tryd.func163.trans (congrArg some (by kernel_rfl))
  t0 := Tryd.underlying0
  a0 := Tryd.isAgg0
  z0 := Tryd.sizeOf0
  v0 := Tryd.zeroValue0
  t3 := Tryd.underlying3
  a3 := Tryd.isAgg3
  z3 := Tryd.sizeOf3
  v3 := Tryd.zeroValue3
  t4 := Tryd.underlying4
  a4 := Tryd.isAgg4
  z4 := Tryd.sizeOf4
  v4 := Tryd.zeroValue4
  t9 := Tryd.underlying9
  a9 := Tryd.isAgg9
  z9 := Tryd.sizeOf9
  v9 := Tryd.zeroValue9
  t20 := Tryd.underlying20
  a20 := Tryd.isAgg20
  z20 := Tryd.sizeOf20
  v20 := Tryd.zeroValue20
  t37 := Tryd.underlying111
  a37 := Tryd.isAgg111
  z37 := Tryd.sizeOf111
  v37 := Tryd.zeroValue111
  t70 := Tryd.underlying110
  a70 := Tryd.isAgg110
  z70 := Tryd.sizeOf110
  v70 := Tryd.zeroValue110
  t72 := Tryd.underlying113
  a72 := Tryd.isAgg113
  z72 := Tryd.sizeOf113
  v72 := Tryd.zeroValue113
  t75 := Tryd.underlying115
  a75 := Tryd.isAgg115
  z75 := Tryd.sizeOf115
  v75 := Tryd.zeroValue115
  t164 := Tryd.underlying156
  a164 := Tryd.isAgg156
  z164 := Tryd.sizeOf156
  v164 := Tryd.zeroValue156 }
theorem Tryd.Builder_Extra_166 : Builder.Extra Tryd.prog Tryd.lays166_ren := {
  sizeBuilder := by kernel_rfl
  liesBuilder := by kernel_rfl
  t5 := Tryd.underlying5
  a5 := Tryd.isAgg5
  z5 := Tryd.sizeOf5
  v5 := Tryd.zeroValue5
  infoByte := by kernel_rfl
  cellsByte := by kernel_rfl
  sizeByte := by kernel_rfl
  neB5 := by decide }
end Go.Proofs
/- A strings.Builder beside the evaluator: what WriteString writes, and that it leaves all else alone. -/
set_option linter.unusedVariables false
set_option linter.unusedSimpArgs false
namespace Go.Ev
open Go.Proofs Go.Shelf Go.RowKit Go.Conc
/-- A byte text's append: the row is the one that was there, or a new one. -/
theorem append_str_new {P : Program} (w : World) (base : Nat) (t u ty e : TypeId) (i : TypeInfo) (ht : P.underlying t = some (.slice e)) (hu : P.underlying u = some .string) (hi : P.info? e = some i) (hz : i.zero = some (.int .u8 0))
    (hsize : i.size = 1) (hby : i.bytes = 1) (v : Value) (n : Nat) (xs : List Value) (hown : w.ownsRow base e 1 v n xs) (s : ByteArray)
    (h63 : n + s.size ≤ maxLen) (hbytes : n + s.size ≤ 140737488355328) (hbase : base ≤ w.heap.size) :
    ∃ v' w', (Builtin.append_ #[t, u] ty #[v, .string s]).run P w = .ok v' w' ∧ w'.ownsRow base e 1 v' (n + s.size) (xs ++ Lib.strCells s) ∧ w.grownBy w' v.ownBlock ∧ ∀ k, v'.ownBlock = some k → v.ownBlock = some k ∨ w.heap.size ≤ k := by
  obtain ⟨v', w', r1, r2, r3, _⟩ := Lib.run_append_own_string (P := P) w base t u ty e i ht hu hi hz hsize hby v n xs hown s h63 hbytes hbase
  refine ⟨v', w', r1, r2, r3, ?_⟩
  have hxl : xs.length = n := by simpa using hown.1
  rcases hown.2 with ⟨rfl, rfl⟩ | ⟨g, cap, cur, rfl, hbg, hg, hnc, hcm, hcs, htake⟩
  · have hown' : w.ownsRow w.heap.size e 1 (.slice none 0 0) 0 xs := ⟨by simpa using hxl, .inl ⟨rfl, rfl⟩⟩
    obtain ⟨v2, w2, s1, s2, _, _⟩ := Lib.run_append_own_string (P := P) w w.heap.size t u ty e i ht hu hi hz hsize hby _ 0 xs hown' s h63 hbytes (Nat.le_refl _)
    rw [r1] at s1
    cases s1
    intro k hk
    exact .inr (s2.lt k hk).1
  · by_cases hroom : n + s.size ≤ cap
    · have hr := Lib.run_append_room_string (P := P) w t u ty e i ht hu hi hsize g n cap cur hg s hroom (by simp at hcs; omega)
      rw [r1] at hr
      cases hr
      intro k hk
      exact .inl hk
    · have holds : ∀ j u, xs[j]? = some u → w.cell? ((⟨g, 0, none⟩ : Addr).add j) = some u := hown.cells (g := g) rfl
      have hsmall : n + s.size ≤ 9223372036854775807 := by omega
      have hr := Lib.run_append_grow_string (P := P) w t u ty e i (.int .u8 0) ht hu hi hz ⟨g, 0, none⟩ n cap xs (by rw [hsize]; simpa using hxl) holds s (by omega) (by omega) (by rw [hby]; exact growslice_fits (by omega) (by omega))
      rw [r1] at hr
      cases hr
      intro k hk
      refine .inr ?_
      have : w.heap.size = k := by simpa [Value.ownBlock] using hk
      omega
theorem wpL_append_str {P : Program} {w : World} {ops : Array Oper} {rest : List Oper} {o : Oper} {a : Act} {Q : Exit → Act → World → Prop} (hgd : o.guard = none) (sl x : Operand) (t u : TypeId)
    (ho : o.op = .call { callee := .builtin .append, args := #[sl, x], argTypes := #[t, u] })
    (base : Nat) (e : TypeId) (i : TypeInfo) (ht : P.underlying t = some (.slice e)) (hu : P.underlying u = some .string) (hi : P.info? e = some i) (hz : i.zero = some (.int .u8 0))
    (hsize : i.size = 1) (hby : i.bytes = 1)
    (v : Value) (n : Nat) (xs : List Value) (hs : a.eval sl = v) (hown : w.ownsRow base e 1 v n xs) (s : ByteArray) (hx : a.eval x = .string s)
    (h63 : n + s.size ≤ maxLen) (hbytes : n + s.size ≤ 140737488355328) (hbase : base ≤ w.heap.size)
    (h : ∀ v' w', w'.ownsRow base e 1 v' (n + s.size) (xs ++ Lib.strCells s) → w.grownBy w' v.ownBlock → (∀ k, v'.ownBlock = some k → v.ownBlock = some k ∨ w.heap.size ≤ k) → wpList P ops Q rest (a.put o.dst v') w') : wpList P ops Q (o :: rest) a w := by
  refine wpList_plain hgd fun K hK => ?_
  obtain ⟨v', w', hr, h2, h3, h4⟩ := append_str_new (P := P) w base t u o.type e i ht hu hi hz hsize hby v n xs hown s h63 hbytes hbase
  unfold Oper.wp execOp
  simp only [ho, resolve, invoke, builtin, Sem.run_bind, Sem.run_pure, Result.andThen_ok, List.map_toArray, List.map_cons, List.map_nil, hs, hx, hr]
  exact hK _ _ (h v' w' h2 h3 h4)
/-- The block in which a builder's bytes lie. -/
def bufOf (w : World) (b k : Nat) : Prop := ∃ p v T, w.heap[b]? = some (.cells #[p, v] T (0, 0)) ∧ v.ownBlock = some k
variable {P : Program} {ρ : Ren}
theorem check_at (L : Lays.n240 P ρ) (X : Builder.X72 P ρ) (B b : Nat) (bs : List Value) (w : World) (h : Lib.IsBuilder (ρ.t 72) (ρ.t 5) B b bs w) :
    Calls P (ρ.f 240) #[.pointer (some ⟨b, 0, none⟩)] w fun e w' => e = .returned (.tuple #[]) ∧ (Lib.BuilderAt (ρ.t 72) (ρ.t 5) B b (.pointer (some ⟨b, 0, none⟩)) bs w' ∧ Below B w w') ∧
      w'.heap.size = w.heap.size ∧ (∀ k, k ≠ b → w'.heap[k]? = w.heap[k]?) ∧ ∀ k, bufOf w' b k → bufOf w b k := by
  rcases h with h | h
  · refine (Any.Builder_copyCheck_fresh L X b w h.cell0 h.shape h.frozen0).mono ?_
    rintro e w' ⟨rfl, rfl⟩
    refine ⟨rfl, ⟨h.used _, (Below.refl B w).setCell (p := ⟨b, 0, none⟩) h.1 _⟩, by simp [World.setCell], fun k hk => Below.heap_setCell _ _ _ _ hk, ?_⟩
    obtain ⟨hB, v, hb, hrest⟩ := h
    rintro k ⟨p, v', T, h1, h2⟩
    have : (w.setCell ⟨b, 0, none⟩ (.pointer (some ⟨b, 0, none⟩))).heap[b]? = some (.cells #[.pointer (some ⟨b, 0, none⟩), v] (ρ.t 72) (0, 0)) := by simp [World.setCell, Array.getElem?_modify, hb]
    rw [this] at h1
    simp only [Option.some.injEq, Obj.cells.injEq] at h1
    obtain ⟨h1, rfl, -⟩ := h1
    have h3 : v = v' := by
      have := congrArg (fun x : Array Value => x[1]?) h1
      simpa using this
    exact ⟨_, v, _, hb, h3 ▸ h2⟩
  · refine (Any.Builder_copyCheck_used L X b w h.cell0).mono ?_
    rintro e w' ⟨rfl, rfl⟩
    exact ⟨rfl, ⟨h, Below.refl B _⟩, rfl, fun _ _ => rfl, fun _ h => h⟩
set_option maxHeartbeats 2000000 in
set_option maxRecDepth 100000 in
theorem write_calls (L : Lays.n166 P ρ) (X : Builder.Extra P ρ) (B b : Nat) (bs : List Value) (s : ByteArray) (w : World) (h : Lib.IsBuilder (ρ.t 72) (ρ.t 5) B b bs w) (hlen : bs.length + s.size ≤ 140737488355328) (hBw : B ≤ w.heap.size) :
    Calls P (ρ.f 166) #[.pointer (some ⟨b, 0, none⟩), .string s] w fun e w' => e = .returned (.tuple #[.int .i64 s.size, .nilIface]) ∧ Lib.BuilderAt (ρ.t 72) (ρ.t 5) B b (.pointer (some ⟨b, 0, none⟩)) (bs ++ Lib.strCells s) w' ∧ Below B w w' ∧
      (∀ k, k < w.heap.size → k ≠ b → ¬ bufOf w b k → w'.heap[k]? = w.heap[k]?) ∧ ∀ k, bufOf w' b k → bufOf w b k ∨ w.heap.size ≤ k := by
  obtain ⟨i0, hi, hz0, hz1, hz2⟩ := info_parts X.infoByte
  have mixed := L.mixed
  have t72 := L.t72; have a72 := L.a72; have z72 := L.z72; have v72 := L.v72; have u72 := run_underlying L.t72
  have t70 := L.t70; have a70 := L.a70; have z70 := L.z70; have v70 := L.v70; have u70 := run_underlying L.t70
  have t37 := L.t37; have a37 := L.a37; have z37 := L.z37; have v37 := L.v37; have u37 := run_underlying L.t37
  have t3 := L.t3; have a3 := L.a3; have z3 := L.z3; have v3 := L.v3; have u3 := run_underlying L.t3
  have t9 := L.t9; have a9 := L.a9; have z9 := L.z9; have v9 := L.v9; have u9 := run_underlying L.t9
  have t4 := L.t4; have a4 := L.a4; have z4 := L.z4; have v4 := L.v4; have u4 := run_underlying L.t4
  have t164 := L.t164; have a164 := L.a164; have z164 := L.z164; have v164 := L.v164; have u164 := run_underlying L.t164
  have t5 := X.t5; have a5 := X.a5; have z5 := X.z5; have v5 := X.v5; have u5 := run_underlying X.t5
  have e240 : ∀ args w, (callFunc (ρ.f 240) args).run P w = .ok (.enter (ρ.f 240) args) w := enters_of L.f240 (by kernel_rfl) rfl
  go_enter L.f166, Body.n166_ntmps ρ
  go_wp2_with (go_at_fn (ρ.f 240); refine (check_at { L with } X.toX72 B b bs _ h).mono ?_)
  rintro e w1 ⟨rfl, ⟨h1, hb1⟩, q1, q2, q3⟩
  obtain ⟨hB, v, hbk, hown, hne⟩ := h1
  have c0 : w1.cell? ⟨b, 0, none⟩ = some (.pointer (some ⟨b, 0, none⟩)) := by rw [Lib.cell_of_heap hbk]; rfl
  have c1 : w1.cell? ⟨b, 1, none⟩ = some v := by rw [Lib.cell_of_heap hbk]; rfl
  go_wp2_with (at_builtin; refine wpL_append_str rfl _ _ (ρ.t 37) (ρ.t 9) rfl B (ρ.t 5) i0 L.t37 L.t9 hi hz0 hz1 hz2 _ _ _ rfl hown s rfl ?c3 ?c4 ?c5 ?_)
  case c3 => unfold maxLen; omega
  case c4 => omega
  case c5 => have := hb1.size; omega
  intro v' w2 hown' hgrow hnewb
  have hlt : b < w1.heap.size := by
    rcases Nat.lt_or_ge b w1.heap.size with h' | h'
    · exact h'
    · simp [Array.getElem?_eq_none h'] at hbk
  have hb2 : w2.heap[b]? = some (.cells #[.pointer (some ⟨b, 0, none⟩), v] (ρ.t 72) (0, 0)) := by
    rw [hgrow.block b hlt (fun e => hne e.symm)]
    exact hbk
  have d0 : w2.cell? ⟨b, 0, none⟩ = some (.pointer (some ⟨b, 0, none⟩)) := by rw [Lib.cell_of_heap hb2]; rfl
  have d1 : w2.cell? ⟨b, 1, none⟩ = some v := by rw [Lib.cell_of_heap hb2]; rfl
  have f1 : w2.frozen? ⟨b, 1, none⟩ = false := Lib.frozen_of_heap hb2 1
  obtain ⟨ao, n', cap, hv'⟩ : ∃ ao n' cap, v' = .slice ao n' cap := by
    rcases hown'.2 with ⟨hv, _⟩ | ⟨g, cap, cur, hv, _⟩
    · exact ⟨_, _, _, hv⟩
    · exact ⟨_, _, _, hv⟩
  subst hv'
  go_wp2
  go_ret2
  refine ⟨rfl, ?_, ?_, ?_, ?_⟩
  · exact Lib.BuilderAt.put (T := (ρ.t 72)) (e := (ρ.t 5)) hB hb2 (bs' := bs ++ Lib.strCells s) (by simpa [Lib.strCells_length] using hown') X.neB5
  · exact (hb1.grown hgrow (by have := hb1.size; omega) (fun k hk => (hown.lt k hk).1)).setCell (p := ⟨b, 1, none⟩) hB _
  · intro k hk hkb hbuf
    rw [Below.heap_setCell _ _ _ _ hkb]
    rw [hgrow.block k (by omega) (fun e => hbuf (q3 k ⟨_, v, _, hbk, e.symm⟩)), q2 k hkb]
  · rintro k ⟨p, v2, T, h1, h2⟩
    have h3 : (w2.setCell ⟨b, 1, none⟩ (.slice ao n' cap)).heap[b]? = some (.cells #[.pointer (some ⟨b, 0, none⟩), .slice ao n' cap] (ρ.t 72) (0, 0)) := by simp [World.setCell, Array.getElem?_modify, hb2]
    rw [h3] at h1
    simp only [Option.some.injEq, Obj.cells.injEq] at h1
    obtain ⟨h1, rfl, -⟩ := h1
    have h4 : Value.slice ao n' cap = v2 := by
      have := congrArg (fun x : Array Value => x[1]?) h1
      simpa using this
    subst h4
    rcases hnewb k h2 with h5 | h5
    · exact .inl (q3 k ⟨_, v, _, hbk, h5⟩)
    · exact .inr (by omega)
end Go.Ev
/- A strings.Builder beside the evaluator: made, written, and told. -/
set_option linter.unusedVariables false
set_option linter.unusedSimpArgs false
namespace Go.Ev
open Go.Proofs Go.Shelf Go.RowKit Go.Conc
/-- A builder in kept blocks, and the bytes that it holds. -/
structure Bd (T e : TypeId) (B : Nat) (K : Nat → Prop) (b : Nat) (l : List UInt8) (w : World) : Prop where
  kb : K b
  buf : ∀ k, bufOf w b k → K k
  is : Lib.IsBuilder T e B b (Lib.byteCells l) w
theorem bufOf.move {w w2 : World} {b k : Nat} (hb : w2.heap[b]? = w.heap[b]?) (h : bufOf w2 b k) : bufOf w b k := by
  obtain ⟨p, v, T, h1, h2⟩ := h
  exact ⟨p, v, T, by rw [← hb]; exact h1, h2⟩
theorem at_move {T e : TypeId} {B b : Nat} {p : Value} {bs : List Value} {w w2 : World} (h : Lib.BuilderAt T e B b p bs w) (hb : w2.heap[b]? = w.heap[b]?) (hg : ∀ k, bufOf w b k → w2.heap[k]? = w.heap[k]?) : Lib.BuilderAt T e B b p bs w2 := by
  obtain ⟨h1, v, h2, h3, h4⟩ := h
  refine ⟨h1, v, by rw [hb]; exact h2, ⟨h3.1, ?_⟩, h4⟩
  rcases h3.2 with h5 | ⟨g, cap, cur, rfl, h6, h7, h8⟩
  · exact .inl h5
  · exact .inr ⟨g, cap, cur, rfl, h6, by rw [hg g ⟨_, _, _, h2, rfl⟩]; exact h7, h8⟩
theorem Bd.move {T e : TypeId} {B : Nat} {K : Nat → Prop} {b : Nat} {l : List UInt8} {w w2 : World} (h : Bd T e B K b l w) (hk : ∀ k, K k → w2.heap[k]? = w.heap[k]?) : Bd T e B K b l w2 :=
  ⟨h.kb, fun k hb => h.buf k (hb.move (hk b h.kb)), h.is.elim (fun x => .inl (at_move x (hk b h.kb) fun k hb => hk k (h.buf k hb))) (fun x => .inr (at_move x (hk b h.kb) fun k hb => hk k (h.buf k hb)))⟩
section
variable {P : Program} {C : Ctx} {b : Frame} {Q : Exit → Act → World → Prop} {a : Act} {w : World} {ops : Array Oper} {l : List Nat} {R0 : Ref} {K : Nat → Prop} {W : Nat → Option Obj} {n : Nat} {sl : List (Nat × Value)} {s : St} {ρ : Ren}
theorem Kd.lt (h : Kd R0 K W n sl s a w) {k : Nat} (hk : K k) : k < w.heap.size := by
  obtain ⟨R, h1, _, h3, _⟩ := h.st
  exact Nat.lt_of_lt_of_le (h1 k hk).1 h3.grow
theorem Kd.bd {T e : TypeId} {c : Nat} {x : List UInt8} {w1 : World} (h : Kd R0 K (fun k => w1.heap[k]?) n sl s a w) (hB : Bd T e R0.w0.heap.size K c x w1) : Bd T e R0.w0.heap.size K c x w := hB.move fun k hk => h.heap hk
/-- A builder is made. -/
theorem Kd.make {T : TypeId} {i d : Nat} {o : Oper} {e : TypeId} (h : Kd R0 (fun _ => False) W n sl s a w) (ho : ops[i]? = some o) (hg : o.guard = none) (hop : o.op = .alloc T) (hdst : o.dst = some d) (hz : ∀ w, (zeroValue T).run P w = .ok (.agg #[.pointer none, .slice none 0 0]) w)
    (hl : s.look d = .undef) (hd : d < n) (hsl : ∀ p ∈ sl, p.1 ≠ d)
    (hnext : ∀ c K' a' w', Kd R0 K' (fun k => w'.heap[k]?) n ((d, .pointer (some ⟨c, 0, none⟩)) :: sl) s a' w' → Bd T e R0.w0.heap.size K' c [] w' → RegTo P b ops l Q a' w') : RegTo P b ops (i :: l) Q a w := by
  refine RegTo.value ho hg (v := .pointer (some ⟨w.heap.size, 0, none⟩)) (w' := w.alloc (.cells #[.pointer none, .slice none 0 0] T)) ?_ ?_
  · unfold execOp
    rw [hop]
    simp [Instr.alloc, hz, newVar, newRow, Value.cells]
  · have hn := heap_alloc_new w (.cells #[.pointer none, .slice none 0 0] T)
    have hgr := h.old.grow
    have h2 := h.world (K' := fun k => k = w.heap.size) (W' := fun k => (w.alloc (.cells #[.pointer none, .slice none 0 0] T)).heap[k]?) (w' := w.alloc (.cells #[.pointer none, .slice none 0 0] T)) (fun k hk => .inr (by omega)) (fun k hk => by rw [hk]; exact (Array.getElem?_eq_some_iff.1 hn).1) (fun _ _ => rfl) rfl rfl rfl (by simp) (fun k hk _ => Below.heap_alloc _ _ _ hk)
    rw [hdst]
    have hb : Lib.BuilderAt T e R0.w0.heap.size w.heap.size (.pointer none) [] (w.alloc (.cells #[.pointer none, .slice none 0 0] T)) :=
      ⟨hgr, .slice none 0 0, hn, World.ownsRow_nil _ _ _ _, by simp [Value.ownBlock]⟩
    refine hnext w.heap.size _ _ _ (h2.keep hl hd hsl) ⟨rfl, ?_, .inl hb⟩
    rintro k ⟨p, v, T', h1, h3⟩
    rw [hn] at h1
    simp only [Option.some.injEq, Obj.cells.injEq] at h1
    have h4 : Value.slice none 0 0 = v := by
      have := congrArg (fun x : Array Value => x[1]?) h1.1
      simpa using this
    subst h4
    simp [Value.ownBlock] at h3
/-- Bytes are written. -/
theorem Kd.write {L : Lays.n166 P ρ} {X : Builder.Extra P ρ} {i d c p q : Nat} {o : Oper} {ts : Array TypeId} {fn : Func} {x y : List UInt8} (h : Kd R0 K W n sl s a w) (hB : Bd (ρ.t 72) (ρ.t 5) R0.w0.heap.size K c x w)
    (ho : ops[i]? = some o) (hg : o.guard = none) (hop : o.op = .call { callee := .value (.func (ρ.f 166)), args := #[.tmp p, .tmp q], argTypes := ts }) (hdst : o.dst = some d) (hf : P.funcs[ρ.f 166]? = some fn) (hb : fn.body.isNone = false) (hn : (fn.name == "runtime.NumGoroutine") = false)
    (hp : a.tmps.getD p undef = .pointer (some ⟨c, 0, none⟩)) (hq : a.tmps.getD q undef = .string ⟨⟨y⟩⟩) (hlen : x.length + y.length ≤ 140737488355328)
    (hl : s.look d = .undef) (hd : d < n) (hsl : ∀ p ∈ sl, p.1 ≠ d)
    (hnext : ∀ K' a' w', Kd R0 K' (fun k => w'.heap[k]?) n sl s a' w' → Bd (ρ.t 72) (ρ.t 5) R0.w0.heap.size K' c (x ++ y) w' → RegTo P b ops l Q a' w') : RegTo P b ops (i :: l) Q a w := by
  have hp' : a.eval (.tmp p) = .pointer (some ⟨c, 0, none⟩) := hp
  have hq' : a.eval (.tmp q) = .string ⟨⟨y⟩⟩ := hq
  have hgr := h.old.grow
  have hcall := write_calls L X R0.w0.heap.size c (Lib.byteCells x) ⟨⟨y⟩⟩ w hB.is (by rw [Lib.byteCells_length]; exact hlen) hgr
  refine h.call ho hg hop (x := .func (ρ.f 166)) (caps := #[]) rfl (args := #[.pointer (some ⟨c, 0, none⟩), .string ⟨⟨y⟩⟩]) (by simp [hp', hq']) hf hb hn hcall ?_
  rintro e w' ⟨rfl, h1, h2, h3, h4⟩
  refine ⟨_, fun k => K k ∨ bufOf w' c k, fun k => w'.heap[k]?, rfl, ?_, ?_, fun _ _ => rfl, h2.os, h2.tape, h2.output, h2.size, fun k hk hnk => h3 k hk (fun e => hnk (.inl (by rw [e]; exact hB.kb))) (fun hbf => hnk (.inl (hB.buf k hbf))), fun h5 => ?_⟩
  · rintro k (hk | hk)
    · exact .inl hk
    · exact (h4 k hk).imp (hB.buf k) id
  · rintro k (hk | hk)
    · exact Nat.lt_of_lt_of_le (h.lt hk) h2.size
    · obtain ⟨p', v, T', g1, g2⟩ := hk
      obtain ⟨_, v2, j1, j2, _⟩ := h1
      rw [j1] at g1
      simp only [Option.some.injEq, Obj.cells.injEq] at g1
      have h4 : v2 = v := by
        have := congrArg (fun x : Array Value => x[1]?) g1.1
        simpa using this
      subst h4
      exact (j2.lt k g2).2
  · rw [hdst]
    refine hnext _ _ _ ((h5.keep (k := d) hl hd hsl).less (sl' := sl) (fun p hp => by simp [hp])) ⟨.inl hB.kb, fun k hk => .inr hk, .inr ?_⟩
    rw [Lib.byteCells_append]
    exact h1
theorem S0_lt (h : IsSt R0 s a R0.w0) : ∀ b o, R0.S0 b o → b < R0.w0.heap.size := by
  obtain ⟨M, hM, _, I, _⟩ := h
  intro b o hs
  have := (I.here b o (I.old b o hs).1).2
  rw [hM] at this
  exact this
/-- All is told: nothing of the builder is wanted any more. -/
theorem empty_st (h : IsSt R0 s a w) (hS : ∀ b o, R0.S0 b o → b < R0.w0.heap.size) {w' : World} (hb : Below R0.w0.heap.size w w') (a' : Act) : IsSt R0 { tmps := [], boxes := [] } a' w' := by
  obtain ⟨M, rfl, _, I, _⟩ := h
  refine ⟨⟨w', R0.S0, fun _ => undef, []⟩, rfl, rfl, ⟨hb.os.trans I.os, hb.tape.trans I.tape, hb.output.trans I.output, Nat.le_trans I.size hb.size, fun k h1 h2 => (hb.block k h1).trans (I.frame k h1 h2), fun b o hs => ⟨hs, ?_⟩, fun b o hs => ⟨.inl hs, Nat.lt_of_lt_of_le (hS b o hs) (Nat.le_trans I.size hb.size)⟩, fun b d B hB => by simp [lk] at hB, fun b c d B d' B' _ hB => by simp [lk] at hB⟩, fun t => by simp [St.look, lk, RelV]⟩
  exact (World.cell?_of_block (hb.block b (hS b o hs))).trans (I.old b o hs).2
/-- The builder's text. -/
theorem Kd.told {L : Lays.n169 P ρ} {X : Builder.Extra P ρ} {i d c p : Nat} {o : Oper} {ts : Array TypeId} {fn : Func} {x : List UInt8} (h : Kd R0 K W n sl s a w) (hS : ∀ b o, R0.S0 b o → b < R0.w0.heap.size) (hB : Bd (ρ.t 72) (ρ.t 5) R0.w0.heap.size K c x w)
    (ho : ops[i]? = some o) (hg : o.guard = none) (hop : o.op = .call { callee := .value (.func (ρ.f 169)), args := #[.tmp p], argTypes := ts }) (hdst : o.dst = some d) (hf : P.funcs[ρ.f 169]? = some fn) (hb : fn.body.isNone = false) (hn : (fn.name == "runtime.NumGoroutine") = false)
    (hp : a.tmps.getD p undef = .pointer (some ⟨c, 0, none⟩)) (hlen : x.length ≤ maxStr) (hd : d < n)
    (hnext : ∀ a' w', Kd R0 (fun _ => False) (fun _ => none) n [] { tmps := [(d, .val .str x)], boxes := [] } a' w' → RegTo P b ops l Q a' w') : RegTo P b ops (i :: l) Q a w := by
  have hp' : a.eval (.tmp p) = .pointer (some ⟨c, 0, none⟩) := hp
  have hgr := h.old.grow
  have hcall := Any.Builder_String_any L X R0.w0.heap.size c x w hB.is hgr
  refine RegTo.yields ho hg (K := fun v w' => RegTo P b ops l Q (a.put o.dst v) w') (yields_call hop (caps := #[]) rfl hf hb hn (by simpa [hp'] using hcall) ?_) (fun v w' hv => hv)
  rintro e w' ⟨rfl, h1⟩
  refine ⟨_, rfl, ?_⟩
  rw [hdst]
  have h2 := empty_st h.old hS h1 a
  have h3 := h2.put_known (d := d) (v := .string ⟨x.toArray⟩) (av := .val .str x) (fun M => ⟨[.string ⟨⟨x⟩⟩], ⟨rfl, hlen⟩, rfl⟩) (by rw [h.size]; exact hd)
  exact hnext _ _ (Kd.start (s := { tmps := [(d, .val .str x)], boxes := [] }) h3 ((put_size _ _ _).trans h.size) ((put_defers' _ _ _).trans h.defers) (fun _ h => by cases h))
end
end Go.Ev
/- Bytes written into a builder, from any operand. -/
set_option linter.unusedVariables false
namespace Go.Ev
open Go.Proofs Go.Shelf Go.RowKit Go.Conc
section
variable {P : Program} {C : Ctx} {b : Frame} {Q : Exit → Act → World → Prop} {a : Act} {w : World} {ops : Array Oper} {l : List Nat} {R0 : Ref} {K : Nat → Prop} {W : Nat → Option Obj} {n : Nat} {sl : List (Nat × Value)} {s : St} {ρ : Ren}
theorem Kd.writeO {L : Lays.n166 P ρ} {X : Builder.Extra P ρ} {i d c p : Nat} {oq : Operand} {o : Oper} {ts : Array TypeId} {fn : Func} {x y : List UInt8} (h : Kd R0 K W n sl s a w) (hB : Bd (ρ.t 72) (ρ.t 5) R0.w0.heap.size K c x w)
    (ho : ops[i]? = some o) (hg : o.guard = none) (hop : o.op = .call { callee := .value (.func (ρ.f 166)), args := #[.tmp p, oq], argTypes := ts }) (hdst : o.dst = some d) (hf : P.funcs[ρ.f 166]? = some fn) (hb : fn.body.isNone = false) (hn : (fn.name == "runtime.NumGoroutine") = false)
    (hp : a.tmps.getD p undef = .pointer (some ⟨c, 0, none⟩)) (hq' : a.eval oq = .string ⟨⟨y⟩⟩) (hlen : x.length + y.length ≤ 140737488355328)
    (hl : s.look d = .undef) (hd : d < n) (hsl : ∀ p ∈ sl, p.1 ≠ d)
    (hnext : ∀ K' a' w', Kd R0 K' (fun k => w'.heap[k]?) n sl s a' w' → Bd (ρ.t 72) (ρ.t 5) R0.w0.heap.size K' c (x ++ y) w' → RegTo P b ops l Q a' w') : RegTo P b ops (i :: l) Q a w := by
  have hp' : a.eval (.tmp p) = .pointer (some ⟨c, 0, none⟩) := hp
  have hgr := h.old.grow
  have hcall := write_calls L X R0.w0.heap.size c (Lib.byteCells x) ⟨⟨y⟩⟩ w hB.is (by rw [Lib.byteCells_length]; exact hlen) hgr
  refine h.call ho hg hop (x := .func (ρ.f 166)) (caps := #[]) rfl (args := #[.pointer (some ⟨c, 0, none⟩), .string ⟨⟨y⟩⟩]) (by simp [hp', hq']) hf hb hn hcall ?_
  rintro e w' ⟨rfl, h1, h2, h3, h4⟩
  refine ⟨_, fun k => K k ∨ bufOf w' c k, fun k => w'.heap[k]?, rfl, ?_, ?_, fun _ _ => rfl, h2.os, h2.tape, h2.output, h2.size, fun k hk hnk => h3 k hk (fun e => hnk (.inl (by rw [e]; exact hB.kb))) (fun hbf => hnk (.inl (hB.buf k hbf))), fun h5 => ?_⟩
  · rintro k (hk | hk)
    · exact .inl hk
    · exact (h4 k hk).imp (hB.buf k) id
  · rintro k (hk | hk)
    · exact Nat.lt_of_lt_of_le (h.lt hk) h2.size
    · obtain ⟨p', v, T', g1, g2⟩ := hk
      obtain ⟨_, v2, j1, j2, _⟩ := h1
      rw [j1] at g1
      simp only [Option.some.injEq, Obj.cells.injEq] at g1
      have h4 : v2 = v := by
        have := congrArg (fun x : Array Value => x[1]?) g1.1
        simpa using this
      subst h4
      exact (j2.lt k g2).2
  · rw [hdst]
    refine hnext _ _ _ ((h5.keep (k := d) hl hd hsl).less (sl' := sl) (fun p hp => by simp [hp])) ⟨.inl hB.kb, fun k hk => .inr hk, .inr ?_⟩
    rw [Lib.byteCells_append]
    exact h1
end
end Go.Ev
/- Links told: the pieces, and the reference's text. -/
set_option linter.unusedVariables false
set_option linter.unusedSimpArgs false
namespace Go.Ev.D
open Go.Proofs Go.Conc
def wdigC (k : Nat) : Ctr := { args := [.int .u32], res := [.str], pre := some (fun (x : Int) => x < 10 ^ k), fn := fun (x : Int) => natT x.toNat }
theorem wdig_tree : (fun x : Nat × Int => evFn (mkC tys [(114, wdigC x.1)] []) (fnOf Tryd.prog 114) (resL [.int .u32] x.2) [.str]) =
  (fun x =>
    Tree.br (decide (x.2 < (10 : Int))) (Tree.leaf (bytesToStr [IntKind.wrap IntKind.u8 (IntKind.wrap IntKind.u32 ((48 : Int) + x.2))]))
      (Tree.need (IntKind.wrap IntKind.u32 (Int.tdiv x.2 (10 : Int)) < (10 : Int) ^ x.1)
        (Tree.need
          (List.length (natT (Int.toNat (IntKind.wrap IntKind.u32 (Int.tdiv x.2 (10 : Int))))) +
              List.length (bytesToStr [IntKind.wrap IntKind.u8 (IntKind.wrap IntKind.u32 ((48 : Int) + Int.tmod x.2 (10 : Int)))]) ≤
            (4611686018427387904 : Nat))
          (Tree.leaf (natT (Int.toNat (IntKind.wrap IntKind.u32 (Int.tdiv x.2 (10 : Int)))) ++ bytesToStr [IntKind.wrap IntKind.u8 (IntKind.wrap IntKind.u32 ((48 : Int) + Int.tmod x.2 (10 : Int)))]))))) := by kernel_rfl
theorem wdig0_tree : (fun x : Int => evFn (mkC tys [] []) (fnOf Tryd.prog 114) (resL [.int .u32] x) [.str]) =
  (fun x => Tree.br (decide (x < (10 : Int))) (Tree.leaf (bytesToStr [IntKind.wrap IntKind.u8 (IntKind.wrap IntKind.u32 ((48 : Int) + x))])) Tree.stuck) := by kernel_rfl
theorem wdig_ok : ∀ k, CtrOK Tryd.prog 114 (wdigC k)
  | 0 => fun_ok (G := []) (Λ := []) tysOK ctrs_nil mixed (by kernel_rfl) (by kernel_rfl) (by kernel_rfl) (by kernel_rfl) lp_nil fun (x : Int) hw hp => by
    have h : x < 10 ^ 0 := hp _ rfl
    have hx : IntKind.u32.has x := hw
    rw [has_u32] at hx
    show (evFn (mkC tys [] []) (fnOf Tryd.prog 114) (resL [.int .u32] x) [.str]).holds (fun y => y = natT x.toNat)
    rw [congrFun wdig0_tree x]
    simp only [Tree.holds]
    refine ⟨fun h2 => udig_one hx.1 (of_decide_eq_true h2), fun h2 => ?_⟩
    have h2' : ¬ x < 10 := of_decide_eq_false h2
    omega
  | k + 1 => fun_ok (G := [(114, wdigC k)]) (Λ := []) tysOK (ctrs_cons (wdig_ok k) ctrs_nil) mixed (by kernel_rfl) (by kernel_rfl) (by kernel_rfl) (by kernel_rfl) lp_nil fun (x : Int) hw hp => by
    have h : x < 10 ^ (k + 1) := hp _ rfl
    have hx : IntKind.u32.has x := hw
    rw [has_u32] at hx
    show (evFn (mkC tys [(114, wdigC (k, x).1)] []) (fnOf Tryd.prog 114) (resL [.int .u32] (k, x).2) [.str]).holds (fun y => y = natT x.toNat)
    rw [congrFun wdig_tree (k, x)]
    simp only [Tree.holds]
    refine ⟨fun h2 => udig_one hx.1 (of_decide_eq_true h2), fun h2 => ?_⟩
    have h2' : ¬ x < 10 := of_decide_eq_false h2
    refine ⟨?_, ?_, udig_more h2' hx.2⟩
    · rw [Int.tdiv_eq_ediv_of_nonneg (by omega), show IntKind.wrap IntKind.u32 (x / 10) = x / 10 from u32_id (by omega) (by omega)]
      rw [Int.pow_succ] at h
      omega
    · have := digN_len 20 (IntKind.wrap IntKind.u32 (Int.tdiv x (10 : Int))).toNat
      unfold natT
      simp [bytesToStr]
      omega
def costtC : Ctr := { args := [gCosts], res := [.str], pre := none, fn := fun (x : DCosts) => linksT x }
def rcosttC : Ctr := costtC
def rcosttG : List (Nat × Ctr) := [(45, rupC), (49, rofC), (101, rwithC), (106, rtextC), (114, wdigC 10)]
def rcosttD : LoopD where
  prom := []
  ts := [(1, .ptr 1 gCosts), (3, .val .str), (7, .val (.sl (.int .i64))), (8, .val (.int .i64)), (9, .val (.int .i64))]
  bs := [(1, .var gCosts)]
  pre := fun (x : (List UInt8 × List Int × Int × Int × Unit) × (DCosts × Unit)) => 0 ≤ x.1.2.2.2.1 ∧ x.1.2.2.2.1 ≤ x.1.2.2.1 ∧ x.1.2.2.1 = x.1.2.1.length ∧ x.1.2.2.1 ≤ 16 ∧ (x.1.1.length : Int) ≤ 60 * x.1.2.2.2.1 ∧ (∀ j ∈ x.1.2.1, 0 ≤ j ∧ j < 16 ∧ hasF x.2.1.1 j = true) ∧ cOK x.2.1
  out := fun (x : (List UInt8 × List Int × Int × Int × Unit) × (DCosts × Unit)) => .leaf (.exit 0, ((x.1.1 ++ lnksB x.2.1 (x.1.2.1.drop x.1.2.2.2.1.toNat), x.1.2.1, x.1.2.2.1, x.1.2.2.1, ()), (x.2.1, ())))
theorem rcostt_round : (fun x : (List UInt8 × List Int × Int × Int × Unit) × (DCosts × Unit) => roundOf (mkC tys rcosttG [(0, rcosttD.spec)]) rcosttD (loopB 0 (bodyOf (fnOf Tryd.prog 53))) x) =
  (fun x =>
    Tree.br (decide (x.1.2.2.2.1 < x.1.2.2.1))
      (Tree.need ((0 : Int) ≤ x.1.2.2.2.1 ∧ x.1.2.2.2.1 < (↑(List.length x.1.2.1) : Int))
        (Tree.need (ofF x.2.1 (List.getD x.1.2.1 (Int.toNat x.1.2.2.2.1) (0 : Int)) < (10000000000 : Int))
          (Tree.need
            (List.length (textN (withF (0 : Int) (List.getD x.1.2.1 (Int.toNat x.1.2.2.2.1) (0 : Int)))) +
                List.length (natT (Int.toNat (ofF x.2.1 (List.getD x.1.2.1 (Int.toNat x.1.2.2.2.1) (0 : Int))))) ≤
              (4611686018427387904 : Nat))
            (Tree.need
              (List.length (textN (withF (0 : Int) (List.getD x.1.2.1 (Int.toNat x.1.2.2.2.1) (0 : Int))) ++ natT (Int.toNat (ofF x.2.1 (List.getD x.1.2.1 (Int.toNat x.1.2.2.2.1) (0 : Int))))) +
                  (1 : Nat) ≤
                (4611686018427387904 : Nat))
              (Tree.need
                (List.length x.1.1 +
                    List.length
                      (textN (withF (0 : Int) (List.getD x.1.2.1 (Int.toNat x.1.2.2.2.1) (0 : Int))) ++ natT (Int.toNat (ofF x.2.1 (List.getD x.1.2.1 (Int.toNat x.1.2.2.2.1) (0 : Int)))) ++
                        [(32 : UInt8)]) ≤
                  (4611686018427387904 : Nat))
                (Tree.leaf
                  (Ex.normal,
                    some
                      ((x.1.1 ++
                            (textN (withF (0 : Int) (List.getD x.1.2.1 (Int.toNat x.1.2.2.2.1) (0 : Int))) ++ natT (Int.toNat (ofF x.2.1 (List.getD x.1.2.1 (Int.toNat x.1.2.2.2.1) (0 : Int)))) ++
                              [(32 : UInt8)]),
                          x.1.2.1, x.1.2.2.1, IntKind.wrap IntKind.i64 (x.1.2.2.2.1 + (1 : Int)), ()),
                        x.2.1, ()))))))))
      (Tree.leaf (Ex.exit (0 : Nat), some ((x.1.1, x.1.2.1, x.1.2.2.1, x.1.2.2.2.1, ()), x.2.1, ())))) := by kernel_rfl
theorem rcostt_loop : LoopOK (mkC tys rcosttG [(0, rcosttD.spec)]) rcosttD.spec (loopB 0 (bodyOf (fnOf Tryd.prog 53))) :=
  loopD_ok1 (fun _ => rfl) (fun x => congrFun rcostt_round x) (fun (x : (List UInt8 × List Int × Int × Int × Unit) × (DCosts × Unit)) => (x.1.2.2.1 - x.1.2.2.2.1).toNat) fun (x : (List UInt8 × List Int × Int × Int × Unit) × (DCosts × Unit)) hp => by
    obtain ⟨⟨o, l, n, i, ⟨⟩⟩, c, ⟨⟩⟩ := x
    obtain ⟨h1, h2, h3, h4, h5, h6, h7⟩ := hp
    simp only at h1 h2 h3 h4 h5 h6 h7
    simp only [Tree.holds]
    refine ⟨fun h => ?_, fun h => ?_⟩
    · have h' : i < n := by simpa using h
      have e : IntKind.i64.wrap (i + 1) = i + 1 := i64_id (by omega) (by omega)
      have hm := h6 _ (getD_mem (l := l) h1 (by omega))
      have hd := drop_int (l := l) h1 (by omega)
      generalize l.getD i.toNat 0 = v at hm hd ⊢
      have hr := h7.2 v.toNat
      have hel := lnkB_len c v
      have hof : ofF c v = c.2.getD v.toNat 0 := by unfold ofF; rw [hm.2.2]; rfl
      rw [hof]
      unfold lnkB at hel
      have hk : ∀ o2, o2 = o ++ lnkB c v → (0 ≤ IntKind.i64.wrap (i + 1) ∧ IntKind.i64.wrap (i + 1) ≤ n ∧ n = l.length ∧ n ≤ 16 ∧ (o2.length : Int) ≤ 60 * IntKind.i64.wrap (i + 1) ∧ (∀ j ∈ l, 0 ≤ j ∧ j < 16 ∧ hasF c.1 j = true) ∧ cOK c) ∧ (n - IntKind.i64.wrap (i + 1)).toNat < (n - i).toNat ∧
          (Ex.exit 0, ((o2 ++ lnksB c (l.drop (IntKind.i64.wrap (i + 1)).toNat), l, n, n, ()), (c, ()))) = (Ex.exit 0, ((o ++ lnksB c (l.drop i.toNat), l, n, n, ()), (c, ()))) := by
        rintro o2 rfl
        have := lnkB_len c v
        rw [e, hd, lnks_cons]
        refine ⟨⟨by omega, by omega, h3, h4, ?_, h6, h7⟩, by omega, ?_⟩
        · rw [List.length_append]; omega
        · rw [List.append_assoc]
      unfold lnkB at hk
      generalize c.2.getD v.toNat 0 = u at hr hel hk ⊢
      generalize textN (withF 0 v) = a1 at hel hk ⊢
      generalize natT u.toNat = a2 at hel hk ⊢
      simp only [List.length_append, List.length_cons, List.length_nil] at hel
      refine ⟨⟨h1, by omega⟩, by omega, ?_, ?_, ?_, _, rfl, hk _ rfl⟩
      all_goals first | omega | (simp only [List.length_append, List.length_cons, List.length_nil]; omega)
    · have h' : ¬ i < n := by simpa using h
      have hi : i = n := by omega
      subst hi
      refine ⟨_, rfl, ?_⟩
      show (Ex.exit 0, ((o ++ lnksB c (l.drop i.toNat), l, i, i, ()), (c, ()))) = _
      rw [List.drop_eq_nil_of_le (by omega), show lnksB c [] = [] from rfl, List.append_nil]
      rfl
theorem rcostt_tree : (fun x : DCosts => evFn (mkC tys rcosttG [(0, rcosttD.spec)]) (fnOf Tryd.prog 53) (resL costtC.args x) costtC.res) =
  (fun x =>
    Tree.need
      ((0 : Int) ≤ (0 : Int) ∧
        (0 : Int) ≤ (↑(List.length (elemsF x.1 (16 : Nat))) : Int) ∧
          (↑(List.length (elemsF x.1 (16 : Nat))) : Int) = (↑(List.length (elemsF x.1 (16 : Nat))) : Int) ∧
            (↑(List.length (elemsF x.1 (16 : Nat))) : Int) ≤ (16 : Int) ∧
              (↑(0 : Nat) : Int) ≤ (60 : Int) * (0 : Int) ∧ (∀ (j : Int), j ∈ elemsF x.1 (16 : Nat) → (0 : Int) ≤ j ∧ j < (16 : Int) ∧ hasF x.1 j = true) ∧ cOK x)
      (Tree.leaf ([] ++ lnksB x (List.drop (Int.toNat (0 : Int)) (elemsF x.1 (16 : Nat)))))) := by kernel_rfl
theorem rcostt_ok : CtrOK Tryd.prog 53 rcosttC :=
  fun_ok (G := rcosttG) (Λ := [(0, rcosttD.spec)]) tysOK (ctrs_cons rup_ok (ctrs_cons rof_ok (ctrs_cons rwith_ok (ctrs_cons rtext_ok (ctrs_cons (wdig_ok 10) ctrs_nil))))) mixed (by kernel_rfl) (by kernel_rfl) (by kernel_rfl) (by kernel_rfl) (lp_cons rcostt_loop lp_nil) fun (x : DCosts) hw _ => by
    show (evFn (mkC tys rcosttG [(0, rcosttD.spec)]) (fnOf Tryd.prog 53) (resL costtC.args x) costtC.res).holds _
    rw [congrFun rcostt_tree x]
    have hl := elems_len x.1 16
    have e : rcosttC.fn x = linksT x := rfl
    rw [e]
    simp only [Tree.holds]
    exact ⟨⟨by omega, by omega, trivial, by omega, by simp, fun j hj => elem_in (Nat.le_refl 16) hj, cOK_wt hw⟩, rfl⟩
noncomputable def ctB (i : Nat) : Code := rNth (bodyOf (fnOf Tryd.prog 52)) i
noncomputable def ctL (i : Nat) : Code := rNth (loopB 0 (bodyOf (fnOf Tryd.prog 52))) i
noncomputable def ctI (i : Nat) : Code := rNth (rIn (ctL 2)) i
@[reducible] def ctX : List (Nat × BSh) := [(1, .var gCosts)]
@[reducible] def ctT0 : List (Nat × Sh) := [(1, .ptr 1 gCosts)]
@[reducible] def ctT : List (Nat × Sh) := [(1, .ptr 1 gCosts), (7, .val (.sl (.int .i64))), (8, .val (.int .i64)), (9, .val (.int .i64))]
@[reducible] def ctTb : List (Nat × Sh) := [(1, .ptr 1 gCosts), (7, .val (.sl (.int .i64))), (8, .val (.int .i64)), (9, .val (.int .i64)), (10, .val .bool)]
@[reducible] def ctT5 : List (Nat × Sh) := [(1, .ptr 1 gCosts), (5, .val (.int .i64)), (7, .val (.sl (.int .i64))), (8, .val (.int .i64)), (9, .val (.int .i64))]
@[reducible] def ctTs (t : Nat) : List (Nat × Sh) := [(1, .ptr 1 gCosts), (5, .val (.int .i64)), (7, .val (.sl (.int .i64))), (8, .val (.int .i64)), (9, .val (.int .i64)), (t, .val .str)]
def ctG : List (Nat × Ctr) := [(44, upC), (100, withC), (104, ntextC), (103, sfuintC)]
theorem ct0_tree : (fun x : DCosts => pieceT (mkC tys [] []) (fnOf Tryd.prog 52) [.str] ctT0 ctX [ctB 0] { tmps := number 0 (resL [gCosts] x), boxes := [] }) =
  (fun x => Tree.leaf (none, some ((), x, ()))) := by kernel_rfl
theorem ct2_tree : (fun x : Unit × (DCosts × Unit) => pieceT (mkC tys ctG []) (fnOf Tryd.prog 52) [.str] ctT ctX [ctB 2] (mkS ctT0 ctX x)) =
  (fun x => Tree.leaf (none, some ((elemsF x.2.1.1 (16 : Nat), (↑(List.length (elemsF x.2.1.1 (16 : Nat))) : Int), (0 : Int), ()), x.2.1, ()))) := by kernel_rfl
theorem ct3_tree : (fun x : (List Int × Int × Int × Unit) × (DCosts × Unit) => pieceT (mkC tys [] []) (fnOf Tryd.prog 52) [.str] ctTb ctX [ctL 0] (mkS ctT ctX x)) =
  (fun x => Tree.leaf (none, some ((x.1.1, x.1.2.1, x.1.2.2.1, decide (x.1.2.2.1 < x.1.2.1), ()), x.2.1, ()))) := by kernel_rfl
theorem ct4_tree : (fun x : (List Int × Int × Int × Unit) × (DCosts × Unit) => pieceT (mkC tys [] []) (fnOf Tryd.prog 52) [.str] ctT5 ctX [ctI 0] (mkS ctT ctX x)) =
  (fun x =>
    Tree.need ((0 : Int) ≤ x.1.2.2.1 ∧ x.1.2.2.1 < (↑(List.length x.1.1) : Int)) (Tree.leaf (none, some ((List.getD x.1.1 (Int.toNat x.1.2.2.1) (0 : Int), x.1.1, x.1.2.1, x.1.2.2.1, ()), x.2.1, ())))) := by kernel_rfl
theorem ct5_tree : (fun x : (Int × List Int × Int × Int × Unit) × (DCosts × Unit) => opsT (mkC tys ctG []) (ctTs 15) ctX [rOp (ctI 1) 0, rOp (ctI 1) 1, rOp (ctI 1) 2] (mkS ctT5 ctX x)) =
  (fun x => Tree.leaf (some ((x.1.1, x.1.2.1, x.1.2.2.1, x.1.2.2.2.1, textN (withF (0 : Int) x.1.1), ()), x.2.1, ()))) := by kernel_rfl
theorem ct6_tree : (fun x : (Int × List Int × Int × Int × Unit) × (DCosts × Unit) => opsT (mkC tys ctG []) (ctTs 22) ctX [rOp (ctI 2) 0, rOp (ctI 2) 1, rOp (ctI 2) 2, rOp (ctI 2) 3, rOp (ctI 2) 4, rOp (ctI 2) 5] (mkS ctT5 ctX x)) =
  (fun x =>
    Tree.need ((0 : Int) ≤ x.1.1 ∧ x.1.1 < (16 : Int))
      (Tree.need ((10 : Int) = (10 : Int))
        (Tree.leaf (some ((x.1.1, x.1.2.1, x.1.2.2.1, x.1.2.2.2.1, natT (Int.toNat (IntKind.wrap IntKind.u64 (List.getD x.2.1.2 (Int.toNat x.1.1) (0 : Int)))), ()), x.2.1, ()))))) := by kernel_rfl
theorem ct7_tree : (fun x : (List Int × Int × Int × Unit) × (DCosts × Unit) => pieceT (mkC tys [] []) (fnOf Tryd.prog 52) [.str] ctT ctX [ctL 3] (mkS ctT ctX x)) =
  (fun x => Tree.leaf (none, some ((x.1.1, x.1.2.1, IntKind.wrap IntKind.i64 (x.1.2.2.1 + (1 : Int)), ()), x.2.1, ()))) := by kernel_rfl
theorem ct8_tree : (fun x : List UInt8 => opsT (mkC tys [] []) [(2, .val .str)] [] [rOp (ctB 4) 1] { tmps := [(26, .val .str x)], boxes := [] }) =
  (fun x => Tree.leaf (some ((x, ()), ()))) := by kernel_rfl
end Go.Ev.D
/- Links told: costs.Text keeps its contract. -/
set_option linter.unusedVariables false
set_option linter.unusedSimpArgs false
namespace Go.Ev.D
open Go.Proofs Go.Conc
theorem ct_all : seqs (bodyOf (fnOf Tryd.prog 52)) = [ctB 0, ctB 1, ctB 2, ctB 3, ctB 4, ctB 5] := by kernel_rfl
theorem ct_1 : ctB 1 = .region 1 (rOps (ctB 1)) false := by kernel_rfl
theorem ct_3 : ctB 3 = .block 0 (.loop (loopB 0 (bodyOf (fnOf Tryd.prog 52)))) := by kernel_rfl
theorem ct_4 : ctB 4 = .region 9 (rOps (ctB 4)) false := by kernel_rfl
theorem ct_5 : ctB 5 = .ret := by kernel_rfl
theorem ct_loop : seqs (loopB 0 (bodyOf (fnOf Tryd.prog 52))) = [ctL 0, ctL 1, ctL 2, ctL 3] := by kernel_rfl
theorem ct_l1 : ctL 1 = .cond (.tmp 10) .skip (.exit 0) := by kernel_rfl
theorem ct_l2 : ctL 2 = .block 1 (rIn (ctL 2)) := by kernel_rfl
theorem ct_in : seqs (rIn (ctL 2)) = [ctI 0, ctI 1, ctI 2, ctI 3] := by kernel_rfl
theorem ct_i1 : ctI 1 = .region 5 (rOps (ctI 1)) false := by kernel_rfl
theorem ct_i2 : ctI 2 = .region 6 (rOps (ctI 2)) false := by kernel_rfl
theorem ct_i3 : ctI 3 = .region 7 (rOps (ctI 3)) false := by kernel_rfl
theorem ct_n : (fnOf Tryd.prog 52).ntmps = 27 := by kernel_rfl
theorem wr_body : (fnOf Tryd.prog 112).body.isNone = false := by kernel_rfl
theorem wr_name : ((fnOf Tryd.prog 112).name == "runtime.NumGoroutine") = false := by kernel_rfl
theorem wr_fn : Tryd.prog.funcs[112]? = some (fnOf Tryd.prog 112) := fnOf_eq (by kernel_rfl)
theorem st_body : (fnOf Tryd.prog 113).body.isNone = false := by kernel_rfl
theorem st_name : ((fnOf Tryd.prog 113).name == "runtime.NumGoroutine") = false := by kernel_rfl
theorem st_fn : Tryd.prog.funcs[113]? = some (fnOf Tryd.prog 113) := fnOf_eq (by kernel_rfl)
theorem ctG_ok : CtrsOK Tryd.prog (fun f => lk f ctG) := ctrs_cons up_ok (ctrs_cons with_ok (ctrs_cons ntext_ok (ctrs_cons sfuint_ok ctrs_nil)))
attribute [local irreducible] fnOf bodyOf
def ctInv (R0 : Ref) (c : Nat) (x : DCosts) (l : List Int) (m : Nat) (a : Act) (w : World) : Prop :=
  ∃ (i : Int) (out : List UInt8), 0 ≤ i ∧ i ≤ l.length ∧ (out.length : Int) ≤ 40 * i ∧ (m : Int) = l.length - i ∧ out ++ lnksB x (l.drop i.toNat) = lnksB x l ∧
    ∃ K w1, Kd R0 K (fun k => w1.heap[k]?) 27 [(3, .pointer (some ⟨c, 0, none⟩))] (mkS ctT ctX ((l, (l.length : Int), i, ()), (x, ()))) a w ∧ Bd 113 5 R0.w0.heap.size K c out w1
theorem str_at {R0 : Ref} {K : Nat → Prop} {W : Nat → Option Obj} {n : Nat} {sl : List (Nat × Value)} {s : St} {a : Act} {w : World} {t : Nat} {y : List UInt8} (k : Kd R0 K W n sl s a w) (hl : s.look t = .val .str y) : a.tmps.getD t undef = .string ⟨⟨y⟩⟩ := by
  obtain ⟨M, _, _, _, hr⟩ := k.old
  have j := hr t
  rw [hl] at j
  obtain ⟨cs, j1, j2⟩ := j
  have j3 : cs = [.string ⟨⟨y⟩⟩] := j1.1
  subst j3
  exact j2
section
variable {R0 : Ref} {b : Frame} {c : Nat} {a : Act} {w : World}
theorem ct_round {Q : Exit → Act → World → Prop} {x : DCosts} {l : List Int} (hc : cOK x) (hl : l.length ≤ 16) (hin : ∀ j ∈ l, 0 ≤ j ∧ j < 16) {m : Nat} (h : ctInv R0 c x l m a w)
    (hend : ∀ a' w' K w1, Kd R0 K (fun k => w1.heap[k]?) 27 [(3, .pointer (some ⟨c, 0, none⟩))] (mkS ctT ctX ((l, (l.length : Int), (l.length : Int), ()), (x, ()))) a' w' → Bd 113 5 R0.w0.heap.size K c (lnksB x l) w1 → (lnksB x l).length ≤ 640 → Q (.exit 0) a' w') :
    CodeTo Tryd.prog b (loopB 0 (bodyOf (fnOf Tryd.prog 52))) (Exit.then (fun a' w' => ∃ m', m' < m ∧ ctInv R0 c x l m' a' w') Q) a w := by
  obtain ⟨i, out, h0, h1, h6, h2, h7, K, w1, h3, h4⟩ := h
  refine CodeTo.seqs ?_
  rw [ct_loop]
  show LTo Tryd.prog b ([ctL 0] ++ [ctL 1, ctL 2, ctL 3]) _ a w
  refine h3.piece (C := mkC tys [] []) tysOK ctrs_nil mixed (fn := fnOf Tryd.prog 52) (res := [.str]) (ts := ctTb) (bs := ctX) (G := fun y => y = (none, some ((l, (l.length : Int), i, decide (i < l.length), ()), (x, ())))) (by kernel_rfl) (by kernel_rfl) ?_ ?_ ?_ ?_
  · rw [congrFun ct3_tree _]; rfl
  · intro y s' a' w' hy; cases hy
  · intro y a1 w2 hx k1
    simp only [Prod.mk.injEq, Option.some.injEq, true_and] at hx
    subst hx
    refine LTo.cons ?_
    rw [ct_l1]
    refine CodeTo.cond (t := decide (i < l.length)) (k1.old.bool rfl) ?_
    have k2 := k1.restr (L := { prom := [], keep := ctT.map (·.1), boxes := [1], sum := fun _ => .stuck }) (s' := mkS ctT ctX ((l, (l.length : Int), i, ()), (x, ()))) (by kernel_rfl)
    cases hlt : decide (i < l.length) with
    | false =>
      have : ¬ i < l.length := by simpa using hlt
      have hi : i = l.length := by omega
      subst hi
      rw [if_neg (by simp)]
      refine CodeTo.exit ?_
      have h8 : lnksB x l = out := by
        rw [← h7]
        have : l.drop (l.length : Int).toNat = [] := List.drop_eq_nil_of_le (by omega)
        rw [this]
        exact List.append_nil _
      exact hend _ _ K w1 k2 (by rw [h8]; exact h4) (by rw [h8]; omega)
    | true =>
      have hlt' : i < l.length := by simpa using hlt
      rw [if_pos rfl]
      refine CodeTo.skip ?_
      refine LTo.cons ?_
      rw [ct_l2]
      refine CodeTo.block ?_
      refine CodeTo.seqs ?_
      rw [ct_in]
      have hd := drop_int (l := l) h0 hlt'
      have hm := hin _ (getD_mem (l := l) h0 hlt')
      rw [hd, lnks_cons] at h7
      have hlen := lnkB_len x (l.getD i.toNat 0)
      show LTo Tryd.prog b ([ctI 0] ++ [ctI 1, ctI 2, ctI 3]) _ a1 w2
      refine k2.piece (C := mkC tys [] []) tysOK ctrs_nil mixed (fn := fnOf Tryd.prog 52) (res := [.str]) (ts := ctT5) (bs := ctX) (G := fun y => y = (none, some ((l.getD i.toNat 0, l, (l.length : Int), i, ()), (x, ())))) (by kernel_rfl) (by kernel_rfl) ?_ ?_ ?_ ?_
      · rw [congrFun ct4_tree _]; exact ⟨⟨h0, hlt'⟩, rfl⟩
      · intro y s' a' w' hy; cases hy
      · intro y a2 w3 hx k3
        simp only [Prod.mk.injEq, Option.some.injEq, true_and] at hx
        subst hx
        generalize l.getD i.toNat 0 = v at k3 h7 hlen hm
        have hlk : lnkB x v = (textN (withF 0 v) ++ natT (x.2.getD v.toNat 0).toNat) ++ [32] := rfl
        have hu := hc.2 v.toNat
        rw [hlk] at h7 hlen
        simp only [List.length_append, List.length_cons, List.length_nil] at hlen
        refine LTo.cons ?_
        rw [ct_i1]
        refine CodeTo.region ?_
        rw [show List.range (rOps (ctI 1)).size = [0, 1, 2, 3] by kernel_rfl]
        show RegTo Tryd.prog b _ ([0, 1, 2] ++ [3]) _ _ _
        refine k3.opsL (C := mkC tys ctG []) tysOK ctG_ok (ts := ctTs 15) (bs := ctX) (G := fun y => y = some ((v, l, (l.length : Int), i, textN (withF 0 v), ()), (x, ()))) [0, 1, 2] (by kernel_rfl) (by kernel_rfl) ?_ ?_ (fun h => by cases h)
        · have := congrFun ct5_tree ((v, l, (l.length : Int), i, ()), (x, ()))
          show (opsT (mkC tys ctG []) (ctTs 15) ctX [rOp (ctI 1) 0, rOp (ctI 1) 1, rOp (ctI 1) 2] (mkS ctT5 ctX ((v, l, (l.length : Int), i, ()), (x, ())))).holds _
          rw [this]; rfl
        · intro y a3 w4 hx k4
          simp only [Option.some.injEq] at hx
          subst hx
          refine k4.writeO (L := Tryd.lays166) (X := Tryd.Builder_Extra_166) (o := rOp (ctI 1) 3) (ts := #[113, 9]) (d := 16) (p := 3) (oq := .tmp 15) (y := textN (withF 0 v)) (k4.bd h4) (by kernel_rfl) (by kernel_rfl) (by kernel_rfl) (by kernel_rfl) wr_fn wr_body wr_name (k4.slots (3, .pointer (some ⟨c, 0, none⟩)) (by simp)) (str_at k4 rfl) (by omega) rfl (by omega) (by simp) fun K2 a4 w5 k5 h5 => ?_
          refine RegTo.nil ?_
          have k6 := k5.restr (L := { prom := [], keep := ctT5.map (·.1), boxes := [1], sum := fun _ => .stuck }) (s' := mkS ctT5 ctX ((v, l, (l.length : Int), i, ()), (x, ()))) (by kernel_rfl)
          refine LTo.cons ?_
          rw [ct_i2]
          refine CodeTo.region ?_
          rw [show List.range (rOps (ctI 2)).size = [0, 1, 2, 3, 4, 5, 6] by kernel_rfl]
          show RegTo Tryd.prog b _ ([0, 1, 2, 3, 4, 5] ++ [6]) _ _ _
          refine k6.opsL (C := mkC tys ctG []) tysOK ctG_ok (ts := ctTs 22) (bs := ctX) (G := fun y => y = some ((v, l, (l.length : Int), i, natT (x.2.getD v.toNat 0).toNat, ()), (x, ()))) [0, 1, 2, 3, 4, 5] (by kernel_rfl) (by kernel_rfl) ?_ ?_ (fun h => by cases h)
          · have := congrFun ct6_tree ((v, l, (l.length : Int), i, ()), (x, ()))
            show (opsT (mkC tys ctG []) (ctTs 22) ctX [rOp (ctI 2) 0, rOp (ctI 2) 1, rOp (ctI 2) 2, rOp (ctI 2) 3, rOp (ctI 2) 4, rOp (ctI 2) 5] (mkS ctT5 ctX ((v, l, (l.length : Int), i, ()), (x, ())))).holds _
            rw [this]
            refine ⟨hm, rfl, ?_⟩
            show _ = some ((v, l, (l.length : Int), i, natT (x.2.getD v.toNat 0).toNat, ()), (x, ()))
            rw [← u64_id hu.1 (by omega)]
            rw [u64_id (n := IntKind.u64.wrap (x.2.getD v.toNat 0)) (by rw [u64_id hu.1 (by omega)]; exact hu.1) (by rw [u64_id hu.1 (by omega)]; omega)]
          · intro y a5 w6 hx k7
            simp only [Option.some.injEq] at hx
            subst hx
            refine k7.writeO (L := Tryd.lays166) (X := Tryd.Builder_Extra_166) (o := rOp (ctI 2) 6) (ts := #[113, 9]) (d := 23) (p := 3) (oq := .tmp 22) (y := natT (x.2.getD v.toNat 0).toNat) (k7.bd h5) (by kernel_rfl) (by kernel_rfl) (by kernel_rfl) (by kernel_rfl) wr_fn wr_body wr_name (k7.slots (3, .pointer (some ⟨c, 0, none⟩)) (by simp)) (str_at k7 rfl) (by rw [List.length_append]; omega) rfl (by omega) (by simp) fun K3 a6 w7 k8 h8 => ?_
            refine RegTo.nil ?_
            have k9 := k8.restr (L := { prom := [], keep := ctT.map (·.1), boxes := [1], sum := fun _ => .stuck }) (s' := mkS ctT ctX ((l, (l.length : Int), i, ()), (x, ()))) (by kernel_rfl)
            refine LTo.cons ?_
            rw [ct_i3]
            refine CodeTo.region ?_
            rw [show List.range (rOps (ctI 3)).size = [0] by kernel_rfl]
            refine k9.writeO (L := Tryd.lays166) (X := Tryd.Builder_Extra_166) (o := rOp (ctI 3) 0) (ts := #[113, 9]) (d := 24) (p := 3) (oq := .const (.string ⟨#[32]⟩)) (y := [32]) (k9.bd h8) (by kernel_rfl) (by kernel_rfl) (by kernel_rfl) (by kernel_rfl) wr_fn wr_body wr_name (k9.slots (3, .pointer (some ⟨c, 0, none⟩)) (by simp)) rfl (by simp only [List.length_append, List.length_cons, List.length_nil]; omega) rfl (by omega) (by simp) fun K4 a7 w8 k10 h10 => ?_
            refine RegTo.nil ?_
            show LTo Tryd.prog b ([ctL 3] ++ []) _ a7 w8
            refine k10.piece (C := mkC tys [] []) tysOK ctrs_nil mixed (fn := fnOf Tryd.prog 52) (res := [.str]) (ts := ctT) (bs := ctX) (G := fun y => y = (none, some ((l, (l.length : Int), IntKind.i64.wrap (i + 1), ()), (x, ())))) (by kernel_rfl) (by kernel_rfl) ?_ ?_ ?_ ?_
            · rw [congrFun ct7_tree _]; rfl
            · intro y s' a' w' hy; cases hy
            · intro y a8 w9 hx k11
              simp only [Prod.mk.injEq, Option.some.injEq, true_and] at hx
              subst hx
              rw [show IntKind.i64.wrap (i + 1) = i + 1 from i64_id (by omega) (by omega)] at k11
              refine ⟨m - 1, by omega, i + 1, ((out ++ textN (withF 0 v)) ++ natT (x.2.getD v.toNat 0).toNat) ++ [32], by omega, by omega, ?_, by omega, ?_, K4, w8, k11, h10⟩
              · simp only [List.length_append, List.length_cons, List.length_nil]; omega
              · rw [← h7]; simp only [List.append_assoc]
            · intro h; cases h
      · intro h; cases h
  · intro h; cases h
end
theorem costt_ok : CtrOK Tryd.prog 52 costtC :=
  ctr_of_to (C := mkC tys ctG []) tysOK (by kernel_rfl) (by kernel_rfl) (by kernel_rfl) (fun x => by rw [ct_n]; show 1 ≤ 27; omega) fun R0 b (x : DCosts) a0 hbk hw _ h0 hsz0 hd0 => by
    rw [ct_n] at hsz0
    have hS := S0_lt h0
    have hc := cOK_wt hw
    have hl := elems_len x.1 16
    rw [ct_all]
    have k0 := Kd.start (W := fun _ => none) (n := 27) (sl := []) h0 hsz0 hd0 (fun _ h => by cases h)
    show LTo Tryd.prog b ([ctB 0] ++ [ctB 1, ctB 2, ctB 3, ctB 4, ctB 5]) _ a0 R0.w0
    refine k0.piece (C := mkC tys [] []) tysOK ctrs_nil mixed (fn := fnOf Tryd.prog 52) (res := [.str]) (ts := ctT0) (bs := ctX) (G := fun y => y = (none, some ((), (x, ())))) (by kernel_rfl) (by kernel_rfl) ?_ ?_ ?_ ?_
    · show (pieceT (mkC tys [] []) (fnOf Tryd.prog 52) [.str] ctT0 ctX [ctB 0] { tmps := number 0 (resL [gCosts] x), boxes := [] }).holds _
      rw [congrFun ct0_tree x]; rfl
    · intro y s' a' w' hy; cases hy
    · intro y a1 w1 hx k1
      simp only [Prod.mk.injEq, Option.some.injEq, true_and] at hx
      subst hx
      refine LTo.cons ?_
      rw [ct_1]
      refine CodeTo.region ?_
      rw [show List.range (rOps (ctB 1)).size = [0] by kernel_rfl]
      refine k1.make (T := 113) (e := 5) (o := rOp (ctB 1) 0) (d := 3) (by kernel_rfl) (by kernel_rfl) (by kernel_rfl) (by kernel_rfl) Tryd.lays166.v72 rfl (by omega) (by simp) fun c K a2 w2 k2 h2 => ?_
      refine RegTo.nil ?_
      show LTo Tryd.prog b ([ctB 2] ++ [ctB 3, ctB 4, ctB 5]) _ a2 w2
      refine k2.piece (C := mkC tys ctG []) tysOK ctG_ok mixed (fn := fnOf Tryd.prog 52) (res := [.str]) (ts := ctT) (bs := ctX) (G := fun y => y = (none, some ((elemsF x.1 16, ((elemsF x.1 16).length : Int), 0, ()), (x, ())))) (by kernel_rfl) (by kernel_rfl) ?_ ?_ ?_ ?_
      · rw [congrFun ct2_tree _]; rfl
      · intro y s' a' w' hy; cases hy
      · intro y a3 w3 hx k3
        simp only [Prod.mk.injEq, Option.some.injEq, true_and] at hx
        subst hx
        refine LTo.cons ?_
        rw [ct_3]
        refine CodeTo.block ?_
        refine CodeTo.loop (ctInv R0 c x (elemsF x.1 16)) (elemsF x.1 16).length ⟨0, [], by omega, by omega, by simp, by omega, rfl, K, w2, k3, h2⟩ fun m a' w' hI => ct_round hc (by omega) (fun j hj => ⟨(elem_in (Nat.le_refl 16) hj).1, (elem_in (Nat.le_refl 16) hj).2.1⟩) hI fun a4 w4 K4 w5 k4 h4 hlen => ?_
        show LTo Tryd.prog b [ctB 4, ctB 5] _ a4 w4
        refine LTo.cons ?_
        rw [ct_4]
        refine CodeTo.region ?_
        rw [show List.range (rOps (ctB 4)).size = [0, 1] by kernel_rfl]
        refine k4.told (L := Tryd.lays169) (X := Tryd.Builder_Extra_169) hS (k4.bd h4) (o := rOp (ctB 4) 0) (ts := #[113]) (d := 26) (p := 3) (by kernel_rfl) (by kernel_rfl) (by kernel_rfl) (by kernel_rfl) st_fn st_body st_name (k4.slots (3, .pointer (some ⟨c, 0, none⟩)) (by simp)) (by unfold maxStr; omega) (by omega) fun a5 w6 k5 => ?_
        show RegTo Tryd.prog b _ ([1] ++ []) _ _ _
        refine k5.opsL (C := mkC tys [] []) tysOK ctrs_nil (ts := [(2, .val .str)]) (bs := []) (G := fun y => y = some ((lnksB x (elemsF x.1 16), ()), ())) [1] (by kernel_rfl) (by kernel_rfl) ?_ ?_ (fun h => by cases h)
        · have := congrFun ct8_tree (lnksB x (elemsF x.1 16))
          show (opsT (mkC tys [] []) [(2, .val .str)] [] [rOp (ctB 4) 1] { tmps := [(26, .val .str (lnksB x (elemsF x.1 16)))], boxes := [] }).holds _
          rw [this]; rfl
        · intro y a6 w7 hx k6
          simp only [Option.some.injEq] at hx
          subst hx
          refine RegTo.nil ?_
          refine LTo.cons ?_
          rw [ct_5]
          refine then_id (CodeTo.of_wp (wp_ret ?_))
          refine ⟨.inr rfl, k6.defers, _, k6.old, ?_⟩
          have : evRes (mkC tys ctG []) (fnOf Tryd.prog 52) costtC.res (.normal, mkS [(2, .val .str)] [] ((lnksB x (elemsF x.1 16), ()), ())) = .leaf (lnksB x (elemsF x.1 16)) := by kernel_rfl
          rw [this]
          rfl
      · intro h; cases h
    · intro h; cases h
end Go.Ev.D
