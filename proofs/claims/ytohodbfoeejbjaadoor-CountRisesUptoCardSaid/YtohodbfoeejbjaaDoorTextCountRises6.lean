/- What a row reads, told in types. -/
import Derived.Deep.Slices
import Derived.ChangeSame
import Derived.Carry
import Derived.RowKit3
import Derived.OpenShut
import Derived.ChangeCalls
import Derived.Shelf.Strings.Builder1
import Derived.Shelf.Utf8.RuneCount
import Derived.Shelf.Strconv.Itoa0
import Derived.Shelf.Strconv.Itoa1
import Derived.Shelf.LaysM
import Derived.Shelf.Strconv.Itoa2
import Derived.Shelf.Strconv.Itoa3
import Derived.Shelf.Strings.Search1
import Derived.Shelf.Strings.Search2
import Derived.Shelf.Strings.Search3
import Derived.Shelf.Strings.Cut
import Derived.Shelf.Strings.Count
import Derived.Shelf.Strings.Shaped
import Derived.Shelf.Strings.Split
import Derived.Shelf.Strings.SplitShaped
import Derived.Shelf.Unicode.Decode
import Derived.Shelf.Strings.RuneCount
import Derived.Shelf.Strings.Explode
import Derived.Shelf.Unicode.DecodeSlow
import Derived.Shelf.Unicode.DecodeAny
import Derived.Test.YtohodbfoeejbjaaDoorProg
import Derived.Test.YtohodbfoeejbjaaDoorTextCountRises5

set_option linter.unusedVariables false
set_option linter.unusedSimpArgs false
namespace Go.Ev
open Go.ChangeShapes Go.RowKit

mutual
def bulk {H : Type} : DataW H → Nat
  | .lit (.string bytes) => bytes.length + 1
  | .lit _ => 1
  | .nil => 1
  | .ptr d => bulk d + 1
  | .slice elems spare => bulkAll elems + bulkAll spare + 1
  | .agg parts => bulkAll parts + 1
  | .iface _ d => bulk d + 1
  | .map entries => bulkEntries entries + 1
  | .held _ => 1
def bulkAll {H : Type} : List (DataW H) → Nat
  | [] => 0
  | d :: r => bulk d + bulkAll r
def bulkEntries {H : Type} : List (Lit × DataW H) → Nat
  | [] => 0
  | x :: r => bulkEntry x + bulkEntries r
def bulkEntry {H : Type} : Lit × DataW H → Nat
  | (.string bytes, d) => bytes.length + bulk d + 1
  | (_, d) => bulk d + 1
end

theorem bulk_mem {H : Type} {d : DataW H} : ∀ {l : List (DataW H)}, d ∈ l → bulk d ≤ bulkAll l
  | [], h => by simp at h
  | x :: l, h => by
    simp only [bulkAll]
    rcases List.mem_cons.1 h with rfl | h
    · omega
    · have := bulk_mem h; omega

theorem bulk_pos {H : Type} : ∀ (d : DataW H), 1 ≤ bulk d := by
  intro d
  cases d with
  | lit l => cases l <;> simp [bulk]
  | _ => simp [bulk]

theorem bulk_len {H : Type} : ∀ (l : List (DataW H)), l.length ≤ bulkAll l
  | [] => by simp [bulkAll]
  | x :: l => by
    have := bulk_len l
    have := bulk_pos x
    simp only [bulkAll, List.length_cons]
    omega

abbrev allS (w : World) : Stab := fun b _ => b < w.heap.size

section
variable {P : Program} {τ : Tys} {w : World} {H : Type} {enc : TypeId × Value → H}

theorem cellsOf_eq (TOK : TysOK P τ) {t : TypeId} {i : TInfo} (hi : τ t = some i) : P.cellsOf t = ncell i.g := by
  obtain ⟨ti, h1, h2, _⟩ := (TOK t i hi).info
  simp [Program.cellsOf, h1, h2]

/-- A chain, out of its fields. -/
theorem chain_enc {S : Stab} : ∀ {n : Nat} {g : GTy} {cs : List Value}, Chain n g → cs.length = ncell g → (∀ k, k < n → ∃ h x, pathTy g (fieldPath n k) = some h ∧ Enc w S h x ((cs.drop (offs g (fieldPath n k))).take (ncell h)) ∧ small h x) → ∃ x, Enc w S g x cs ∧ small g x
  | 1, .prod a .unit, cs, _, hl, h => by
    obtain ⟨h', x, h1, h2, h3⟩ := h 0 (by omega)
    simp only [fieldPath, pathTy, Option.some.injEq] at h1
    subst h1
    simp only [fieldPath, offs, List.drop_zero] at h2
    simp only [ncell, Nat.add_zero] at hl
    rw [List.take_of_length_le (by omega)] at h2
    exact ⟨(x, ()), ⟨cs, [], by simp, h2, rfl⟩, h3, trivial⟩
  | 2, .prod a b, cs, _, hl, h => by
    obtain ⟨h0, x, p1, p2, p3⟩ := h 0 (by omega)
    obtain ⟨h1, y, q1, q2, q3⟩ := h 1 (by omega)
    simp only [fieldPath, pathTy, Option.some.injEq] at p1 q1
    subst p1
    subst q1
    simp only [fieldPath, offs, List.drop_zero, Nat.add_zero] at p2 q2
    simp only [ncell] at hl
    rw [List.take_of_length_le (by simp; omega)] at q2
    exact ⟨(x, y), ⟨_, _, (List.take_append_drop (ncell a) cs).symm, p2, q2⟩, p3, q3⟩
  | n + 3, .prod a b, cs, hc, hl, h => by
    obtain ⟨h0, x, p1, p2, p3⟩ := h 0 (by omega)
    simp only [fieldPath, pathTy, Option.some.injEq] at p1
    subst p1
    simp only [fieldPath, offs, List.drop_zero] at p2
    simp only [ncell] at hl
    obtain ⟨y, hy, hy'⟩ := chain_enc (n := n + 2) (g := b) (cs := cs.drop (ncell a)) hc (by simp; omega) (fun k hk => by
      obtain ⟨h', z, r1, r2, r3⟩ := h (k + 1) (by omega)
      refine ⟨h', z, ?_, ?_, r3⟩
      · simpa only [fieldPath, pathTy] using r1
      · simp only [fieldPath, offs] at r2
        rw [List.drop_drop]
        exact r2)
    exact ⟨(x, y), ⟨_, _, (List.take_append_drop (ncell a) cs).symm, p2, hy⟩, p3, hy'⟩
theorem mapM_get {α β : Type} {f : α → Option β} : ∀ {l : List α} {r : List β}, l.mapM f = some r → r.length = l.length ∧ ∀ (k : Nat) (a : α), l[k]? = some a → ∃ b, r[k]? = some b ∧ f a = some b
  | [], r, h => by
    simp at h
    subst h
    simp
  | a :: l, r, h => by
    rw [List.mapM_cons] at h
    cases ha : f a with
    | none => simp [ha] at h
    | some b =>
      cases hl : l.mapM f with
      | none => simp [ha, hl] at h
      | some r' =>
        simp [ha, hl] at h
        subst h
        obtain ⟨h1, h2⟩ := mapM_get hl
        refine ⟨by simp [h1], fun k x hk => ?_⟩
        cases k with
        | zero => simp at hk; subst hk; exact ⟨b, by simp, ha⟩
        | succ k => simpa using h2 k x (by simpa using hk)

/-- A row of n, out of its places. -/
theorem row_enc {S : Stab} {g : GTy} : ∀ (n : Nat) {cs : List Value}, cs.length = n * ncell g → (∀ k, k < n → ∃ x, Enc w S g x ((cs.drop (k * ncell g)).take (ncell g)) ∧ small g x) → ∃ xs : List (den g), xs.length = n ∧ encL (Enc w S g) xs cs ∧ ∀ x, x ∈ xs → small g x
  | 0, cs, hl, _ => ⟨[], rfl, by simp at hl; exact hl, by simp⟩
  | n + 1, cs, hl, h => by
    obtain ⟨x, hx, hsx⟩ := h 0 (by omega)
    simp only [Nat.zero_mul, List.drop_zero] at hx
    rw [Nat.add_mul, Nat.one_mul] at hl
    obtain ⟨xs, h1, h2, h3⟩ := row_enc (S := S) (g := g) n (cs := cs.drop (ncell g)) (by rw [List.length_drop, hl]; omega) (fun k hk => by
      obtain ⟨y, hy, hsy⟩ := h (k + 1) (by omega)
      refine ⟨y, ?_, hsy⟩
      rw [List.drop_drop]
      rw [Nat.add_mul, Nat.one_mul, Nat.add_comm] at hy
      exact hy)
    exact ⟨x :: xs, by simp [h1], ⟨_, _, (List.take_append_drop (ncell g) cs).symm, hx, h2⟩, fun z hz => by
      rcases List.mem_cons.1 hz with rfl | hz
      · exact hsx
      · exact h3 z hz⟩
theorem cells_get {base : Nat} {a : Addr} {n : Nat} {cs : List Value} (h : w.cells? base a n = some cs) : cs.length = n ∧ ∀ j, j < n → ∃ v, cs[j]? = some v ∧ w.cell? (a.add j) = some v := by
  unfold World.cells? at h
  split at h
  · obtain ⟨h1, h2⟩ := mapM_get h
    refine ⟨by simpa using h1, fun j hj => ?_⟩
    obtain ⟨v, h3, h4⟩ := h2 j j (by simp [hj])
    exact ⟨v, h3, h4⟩
  · cases h

theorem cell_spot {a : Addr} {v : Value} (h : w.cell? a = some v) : a.spot = none ∧ a.block < w.heap.size := by
  unfold World.cell? at h
  split at h
  · rename_i c _ _ hc
    split at h
    · cases h
    · rename_i hs
      exact ⟨by simpa using hs, (Array.getElem?_eq_some_iff.1 hc).1⟩
  · cases h

theorem trod_enc (TOK : TysOK P τ) : ∀ (fuel : Nat) (t : TypeId) (i : TInfo) (cs : List Value) (x : DataW H × List MemPlace), τ t = some i → DataW.trod enc P w 0 (fun _ => true) true fuel t cs = some x → bulk x.1 ≤ 1048576 → ∃ y, Enc w (allS w) i.g y cs ∧ small i.g y
  | 0, t, i, cs, x, _, h, _ => by simp [DataW.trod] at h
  | fuel + 1, t, i, cs, x, hi, h, hb => by
    have T := TOK t i hi
    have hd := T.desc
    have hcl := cellsOf_eq (P := P) TOK hi
    obtain ⟨g, nf, by_, el⟩ := i
    cases g with
    | unit => exact hd.elim
    | bool =>
      simp only at hd
      simp only [DataW.trod, hd] at h
      split at h <;> first | exact ⟨_, rfl, trivial⟩ | simp_all
    | int k =>
      simp only at hd
      simp only [DataW.trod, hd] at h
      split at h <;> try (simp_all; done)
      rename_i k' k2 n heq
      split at h
      · rename_i hk
        simp only [Option.some.injEq, TypeDesc.int.injEq] at heq
        obtain ⟨hk1, hk2⟩ := hk
        subst heq
        subst hk1
        simp only [Lit.wf, Bool.and_eq_true, decide_eq_true_eq] at hk2
        exact ⟨n, ⟨rfl, hk2⟩, trivial⟩
      · cases h
    | str =>
      simp only at hd
      simp only [DataW.trod, hd] at h
      split at h <;> try (simp_all; done)
      rename_i s' _
      split at h
      · rename_i hs
        simp only [Option.some.injEq] at h
        subst h
        simp only [bulk] at hb
        refine ⟨s'.data.toList, ⟨rfl, ?_⟩, ?_⟩
        · simp only [maxStr]; omega
        · show List.length _ ≤ _
          omega
      · cases h
    | prod a b =>
      obtain ⟨fs, q1, q2, q3, q4, q5⟩ := hd
      simp only [DataW.trod, q1] at h
      split at h
      · rename_i hl
        obtain ⟨xs, h1, h2⟩ := Option.map_eq_some_iff.1 h
        obtain ⟨h3, h4⟩ := mapM_get h1
        subst h2
        refine chain_enc q3 (by rw [hl, hcl]) (fun k hk => ?_)
        have hk' : k < fs.size := by omega
        obtain ⟨r1, r2, r3, j, r4, r5, r6⟩ := q5 k fs[k] (by simp [hk'])
        obtain ⟨y, h5, h6⟩ := h4 k fs[k] (by simp [hk'])
        have hby : bulk y.1 ≤ 1048576 := by
          have := bulk_mem (d := y.1) (l := xs.map (·.1)) (List.mem_map.2 ⟨y, List.mem_of_getElem? h5, rfl⟩)
          simp only [bulk] at hb
          omega
        obtain ⟨z, hz, hsz⟩ := trod_enc TOK fuel _ j _ _ r4 h6 hby
        refine ⟨j.g, z, r5, ?_, hsz⟩
        rw [r2, cellsOf_eq TOK r4] at hz
        exact hz
      · cases h
    | arr n a =>
      obtain ⟨e, j, q1, q2, q3⟩ := hd
      subst q3
      simp only [DataW.trod, q1] at h
      split at h
      · rename_i hl
        obtain ⟨xs, h1, h2⟩ := Option.map_eq_some_iff.1 h
        obtain ⟨h3, h4⟩ := mapM_get h1
        subst h2
        have hce := cellsOf_eq (P := P) TOK q2
        obtain ⟨zs, k1, k2, k3⟩ := row_enc (w := w) (S := allS w) (g := j.g) n (cs := cs) (by rw [hl, hcl]; rfl) (fun k hk => by
          obtain ⟨y, h5, h6⟩ := h4 k k (by simp [hk])
          have hby : bulk y.1 ≤ 1048576 := by
            have := bulk_mem (d := y.1) (l := xs.map (·.1)) (List.mem_map.2 ⟨y, List.mem_of_getElem? h5, rfl⟩)
            simp only [bulk] at hb
            omega
          rw [hce] at h6
          exact trod_enc TOK fuel _ j _ _ q2 h6 hby)
        exact ⟨zs, ⟨k1, k2⟩, k3⟩
      · cases h
    | sl a =>
      obtain ⟨e, j, ti, q1, q2, q3, q4, q5, q6, q7, q8, q9⟩ := hd
      subst q4
      have hce := cellsOf_eq (P := P) TOK q3
      have hadd : ∀ (blk off j : Nat), (⟨blk, off, none⟩ : Addr).add j = ⟨blk, off + j, none⟩ := by
        intro blk off j
        unfold Addr.add
        split
        · rename_i hj; subst hj; rfl
        · rfl
      simp only [DataW.trod, q1] at h
      split at h <;> try (simp_all; done)
      · exact ⟨[], ⟨none, 0, rfl, Nat.le_refl _, by simp, by simp [maxRow], .inl rfl⟩, by simp, by simp⟩
      · rename_i e' ad len cap heq
        simp only [Option.some.injEq, TypeDesc.slice.injEq] at heq
        subst heq
        split at h
        · rename_i hcond
          obtain ⟨elems, h1, h2⟩ := Option.bind_eq_some_iff.1 h
          obtain ⟨rest, h3, h4⟩ := Option.map_eq_some_iff.1 h2
          subst h4
          obtain ⟨k1, k2⟩ := mapM_get h1
          have hlen : len ≤ 1048576 := by
            have := bulk_len (elems.map (·.1))
            simp only [bulk] at hb
            simp at this k1
            omega
          have hel : ∀ k, k < len → ∃ ck z, w.cells? 0 (ad.add (k * ncell j.g)) (ncell j.g) = some ck ∧ Enc w (allS w) j.g z ck ∧ small j.g z := by
            intro k hk
            obtain ⟨y, h5, h6⟩ := k2 k k (by simp [hk])
            obtain ⟨ck, h7, h8⟩ := Option.bind_eq_some_iff.1 h6
            have hby : bulk y.1 ≤ 1048576 := by
              have := bulk_mem (d := y.1) (l := elems.map (·.1)) (List.mem_map.2 ⟨y, List.mem_of_getElem? h5, rfl⟩)
              simp only [bulk] at hb
              omega
            rw [hce] at h7
            obtain ⟨z, hz, hsz⟩ := trod_enc TOK fuel _ j _ _ q3 h8 hby
            exact ⟨ck, z, h7, hz, hsz⟩
          rcases Nat.eq_zero_or_pos len with h0 | h0
          · subst h0
            exact ⟨[], ⟨some ad, cap, rfl, Nat.zero_le _, by simp, by simp [maxRow], .inl rfl⟩, by simp, by simp⟩
          · have hspot : ad.spot = none := by
              obtain ⟨ck, z, h7, _⟩ := hel 0 h0
              obtain ⟨_, h8⟩ := cells_get h7
              obtain ⟨v, _, h9⟩ := h8 0 q9
              rw [Nat.zero_mul, show (ad.add 0).add 0 = ad from rfl] at h9
              exact (cell_spot h9).1
            obtain ⟨blk, off, spot⟩ := ad
            simp only at hspot
            subst hspot
            let ds : List Value := (List.range (len * ncell j.g)).map fun q => (w.cell? ⟨blk, off + q, none⟩).getD undef
            have hds : ∀ k, k < len → ∀ q, q < ncell j.g → ∃ v, w.cell? ⟨blk, off + (k * ncell j.g + q), none⟩ = some v := by
              intro k hk q hq
              obtain ⟨ck, z, h7, _⟩ := hel k hk
              obtain ⟨_, h8⟩ := cells_get h7
              obtain ⟨v, _, h9⟩ := h8 q hq
              rw [hadd, hadd] at h9
              exact ⟨v, by rw [← Nat.add_assoc]; exact h9⟩
            have hseg : ∀ k ck, k < len → w.cells? 0 (Addr.add ⟨blk, off, none⟩ (k * ncell j.g)) (ncell j.g) = some ck → (ds.drop (k * ncell j.g)).take (ncell j.g) = ck := by
              intro k ck hk hc
              obtain ⟨h8, h9⟩ := cells_get hc
              have hle : (k + 1) * ncell j.g ≤ len * ncell j.g := Nat.mul_le_mul_right _ hk
              rw [Nat.add_mul, Nat.one_mul] at hle
              apply List.ext_getElem?
              intro q
              rw [List.getElem?_take]
              split
              · rename_i hq
                obtain ⟨v, h10, h11⟩ := h9 q hq
                rw [hadd, hadd, Nat.add_assoc] at h11
                rw [List.getElem?_drop, h10]
                simp only [ds, List.getElem?_map]
                rw [List.getElem?_range (by omega)]
                simp [h11]
              · rename_i hq
                rw [List.getElem?_eq_none (by omega)]
            obtain ⟨zs, r1, r2, r3⟩ := row_enc (w := w) (S := allS w) (g := j.g) len (cs := ds) (by simp [ds]) (fun k hk => by
              obtain ⟨ck, z, h7, h8, h9⟩ := hel k hk
              exact ⟨z, by rw [hseg k ck hk h7]; exact h8, h9⟩)
            have hlb := (TOK e j q3).small.2
            have hlm : len * lbytes j.g ≤ 1048576 * 1048576 := Nat.mul_le_mul hlen hlb
            refine ⟨zs, ⟨some ⟨blk, off, none⟩, cap, by rw [r1], by rw [r1]; exact hcond.2.1, by rw [r1]; simp only [maxRow]; omega, by rw [r1]; simp only [maxRow]; omega, .inr ⟨blk, off, ds, rfl, r2, fun q v hv => ?_⟩⟩, ?_⟩
            rotate_left
            · exact ⟨by rw [r1]; exact hlen, r3⟩
            simp only [ds, List.getElem?_map] at hv
            by_cases hq : q < len * ncell j.g
            · rw [List.getElem?_range hq] at hv
              have hk : q / ncell j.g < len := by
                rw [Nat.div_lt_iff_lt_mul q9]; exact hq
              obtain ⟨v', hv'⟩ := hds (q / ncell j.g) hk (q % ncell j.g) (Nat.mod_lt _ q9)
              rw [show q / ncell j.g * ncell j.g + q % ncell j.g = q from by rw [Nat.mul_comm]; exact Nat.div_add_mod q _] at hv'
              simp only [hv', Option.map_some, Option.getD_some, Option.some.injEq] at hv
              subst hv
              exact ⟨hv', (cell_spot hv').2⟩
            · rw [List.getElem?_eq_none (by simp; omega)] at hv
              simp at hv
        · cases h

/-- An argument is as the machine hands it round. -/
theorem val_of_ok (TOK : TysOK P τ) {t : TypeId} {i : TInfo} (hi : τ t = some i) {base : Nat} {v : Value} (hok : Value.okWide P w .any base t v) (hl : v.cells.toList.length = ncell i.g) : v = toVal i.g v.cells.toList := by
  have T := TOK t i hi
  have ha := T.agg
  unfold toVal
  cases h : isAgg i.g with
  | true =>
    rw [h] at ha
    unfold Value.okWide at hok
    split at hok
    · obtain ⟨cs, rfl, _⟩ := hok; simp [Value.cells]
    · obtain ⟨cs, rfl, _⟩ := hok; simp [Value.cells]
    · rename_i h1 h2
      split at ha
      · rename_i hu; exact (h1 _ hu).elim
      · rename_i hu; exact (h2 _ _ hu).elim
      · cases ha
  | false =>
    rw [h] at ha
    have hna : ∀ cs, v ≠ .agg cs := by
      rintro cs rfl
      unfold Value.okWide at hok
      split at hok
      · rename_i hu; simp [hu] at ha
      · rename_i hu; simp [hu] at ha
      · unfold Cell.okWide at hok
        split at hok <;> try (rename_i hh; cases hh; done)
        unfold Cell.ok at hok
        split at hok <;> first | exact hok | (rename_i hh; cases hh)
    cases v <;> first | rfl | exact (hna _ rfl).elim

/-- The types of parameters. -/
def tysD (τ : Tys) : List TypeId → Option (List GTy)
  | [] => some []
  | t :: ts => match τ t, tysD τ ts with
    | some i, some gs => some (i.g :: gs)
    | _, _ => none

theorem trodAll_enc (TOK : TysOK P τ) {base : Nat} : ∀ {ts : List TypeId} {gs : List GTy} {vs : List Value} {ds : List (DataW H)} {ps : List MemPlace}, tysD τ ts = some gs → DataW.TrodAll enc P w 0 (fun _ => true) true ts vs ds ps → bulkAll ds ≤ 1048576 →
    (∀ (j : Nat) t v, ts[j]? = some t → vs[j]? = some v → Value.okWide P w .any base t v) → ∃ x, EncD w (allS w) gs x vs ∧ smallD gs x
  | [], gs, vs, ds, ps, hg, h, _, _ => by
    simp only [tysD, Option.some.injEq] at hg
    subst hg
    obtain ⟨rfl, _, _⟩ := ChangeShapes.trodAll_nil h
    exact ⟨(), rfl, trivial⟩
  | t :: ts, gs, vs, ds, ps, hg, h, hb, hok => by
    simp only [tysD] at hg
    split at hg
    · rename_i i gs' hi hgs
      simp only [Option.some.injEq] at hg
      subst hg
      obtain ⟨v, vs', d, ds', p, q, rfl, rfl, rfl, ⟨fuel, h1⟩, h2⟩ := ChangeShapes.trodAll_cons h
      simp only [bulkAll] at hb
      obtain ⟨x, hx, hsx⟩ := trod_enc TOK fuel t i _ _ hi h1 (by simp only; omega)
      obtain ⟨y, hy, hsy⟩ := trodAll_enc TOK (base := base) hgs h2 (by omega) (fun j t v h3 h4 => hok (j + 1) t v (by simpa using h3) (by simpa using h4))
      have hv := val_of_ok TOK hi (hok 0 t v rfl rfl) hx.len
      cases gs' with
      | nil =>
        have hvs : vs' = [] := hy
        subst hvs
        exact ⟨x, ⟨_, hx, by rw [← hv]⟩, hsx⟩
      | cons g' gs' => exact ⟨(x, y), ⟨_, vs', hx, by rw [← hv], hy⟩, hsx, hsy⟩
    · cases hg

theorem trodAll_stays (hl : laidOutB P = true) {W W' : World} (hb : RowKit.Below W.heap.size W W') {sp : Nat → Bool} : ∀ {ts : List TypeId} {vs : List Value} {ds : List (DataW H)} {ps : List MemPlace}, (∀ t ∈ ts, P.readableRec t = true ∧ t < P.types.size) →
    DataW.TrodAll enc P W 0 (fun _ => true) true ts vs ds ps → (∀ p ∈ ps, p.block < W.heap.size) → (∀ p ∈ ps, sp p.block = true) → DataW.TrodAll enc P W' 0 sp true ts vs ds ps
  | [], vs, ds, ps, _, h, _, _ => by
    obtain ⟨rfl, rfl, rfl⟩ := ChangeShapes.trodAll_nil h
    exact ChangeShapes.trodAll_mk0
  | t :: ts, vs, ds, ps, hr, h, hlt, hs => by
    obtain ⟨v, vs', d, ds', p, q, rfl, rfl, rfl, h1, h2⟩ := ChangeShapes.trodAll_cons h
    refine trodAll_cons_mk (WideElems.Trod_stays hl (hr t (by simp)).1 (hr t (by simp)).2 h1 (fun x hx => hb.same (hlt x (by simp [hx]))) (fun x hx => hs x (by simp [hx]))) ?_
    exact trodAll_stays hl hb (fun t ht => hr t (by simp [ht])) h2 (fun p hp => hlt p (by simp [hp])) (fun p hp => hs p (by simp [hp]))

theorem kept_of_grows {W W' : World} (h : Grows W W') (may : MemPlace → Prop) : W.keptBut W' may := by
  refine ⟨h.os, h.output, fun i hi => ?_⟩
  rw [h.block i hi]
  cases hh : W.heap[i]? with
  | none => trivial
  | some o => cases o <;> simp

theorem frozen_of_grows {W W' : World} (h : Grows W W') {b off : Nat} (hb : b < W.heap.size) : W'.frozen? ⟨b, off, none⟩ = W.frozen? ⟨b, off, none⟩ := by
  simp [World.frozen?, h.block b hb]

/-- A law that always answers 'true', as its row asks. -/
theorem law_contract (hl : laidOutB P = true) (TOK : TysOK P τ) {f : Nat} {fn : Func} {gs : List GTy} (hts : tysD τ fn.params.toList = some gs) (hread' : (fn.params.toList.all fun t => P.readableRec t && Nat.blt t P.types.size) = true)
    {tb : TypeId} (hr : fn.resultTypes = #[tb]) (htb : P.underlying tb = some .bool) (hc : CtrOK P f { args := gs, res := [.bool], pre := some (smallD gs), fn := fun _ => true })
    {s : ChangeSpec} (hvars : s.vars = []) (hs : ∀ ds : List (DataW H), ds.length = fn.params.toList.length → s.fn H ds = ⟨[.lit (.bool true)], ds, []⟩) {apart fresh handsOn again : Bool} {W : World} {base : Nat} {args : Array Value} {ds es : List (DataW H)} {before : List MemPlace}
    (hval : ∀ (j : Nat) t v, fn.params[j]? = some t → args[j]? = some v → Value.okWide P W .any base t v) (hW : DataW.Whole enc P fn.params.toList s.vars apart W args.toList ds es before) (hb' : bulkAll (ds ++ es) ≤ 1048576) (hT : Tab (allS W) W) :
    Calls P f args W fun e W' => ∃ v, e = .returned v ∧ s.post enc P fn apart fresh handsOn again W args v W' := by
  have hW' := hW
  obtain ⟨p, q, hA, hV, rfl, hfz, hnd⟩ := hW
  rw [hvars] at hV
  obtain ⟨rfl, rfl⟩ := trodVars_none hV
  have hb : bulkAll ds ≤ 1048576 := by rw [List.append_nil] at hb'; exact hb'
  have hread : ∀ t ∈ fn.params.toList, P.readableRec t = true ∧ t < P.types.size := by
    intro t ht
    have := List.all_eq_true.1 hread' t ht
    simp only [Bool.and_eq_true] at this
    exact ⟨this.1, by simpa [Nat.blt_eq] using this.2⟩
  obtain ⟨x, hx, hsm⟩ := trodAll_enc TOK (base := base) hts hA hb (fun j t v h1 h2 => hval j t v (by simpa using h1) (by simpa using h2))
  have hcall := hc.2 W (allS W) args.toList x (fun b o h => h) hT hx (fun p hp => by simp only [Option.some.injEq] at hp; subst hp; exact hsm)
  simp only [Array.toArray_toList] at hcall
  refine hcall.mono ?_
  rintro e W' ⟨v, he, hg, N, hN, us, ⟨cs, hcs, hus⟩, hv⟩
  subst hus
  simp only at hv
  have hcs' : cs = [.bool true] := hcs
  subst hcs'
  have hv' : v = .bool true := hv
  subst hv'
  have hlt : ∀ x ∈ p, x.block < W.heap.size := fun y hy => hW'.lt y (by simp [hy])
  have hbel : RowKit.Below W.heap.size W W' := ⟨hg.os, hg.tape, hg.output, hg.size, hg.block⟩
  have hlen := (trodAll_length hA).2
  have hfn : s.fn H (ds ++ []) = ⟨[.lit (.bool true)], ds, []⟩ := by
    rw [List.append_nil]; exact hs ds hlen
  have hres : ∀ (b : Nat) (sp : Nat → Bool) (hd : Bool), DataW.TrodAll enc P W' b sp hd fn.resultTypes.toList ((Value.bool true).resultList fn.resultTypes.size) [.lit (.bool true)] [] := by
    intro b sp hd
    rw [hr]
    exact ⟨[], [], shut_bool htb true, trodAll_mk0, rfl⟩
  have hargs : ∀ sp : Nat → Bool, (∀ x ∈ p, sp x.block = true) → DataW.TrodAll enc P W' 0 sp true fn.params.toList args.toList ds p := fun sp hsp => trodAll_stays hl hbel hread hA hlt hsp
  refine ⟨_, he, ds, [], p ++ [], [], p, [], hW', ?_, ?_, ?_, kept_of_grows hg _, fun _ => ⟨ok_one hr rfl (okWide_bool_mk htb _), _, [], ([] ++ p) ++ [], ⟨[] ++ p, [], trodAll_append (hargs _ (fun _ _ => rfl)) (hres _ _ _), ?_, rfl, ?_, ?_⟩, ?_⟩⟩
  · rw [hfn]; exact hres _ _ _
  · rw [hfn]; exact hargs _ (fun x hx => by simpa using hlt x hx)
  · rw [hfn, hvars]; rfl
  · rw [hvars]; rfl
  · intro b off hm
    have hm' : MemPlace.cell b off ∈ p := by simpa using hm
    have hb' : b < W.heap.size := hlt _ hm'
    rw [frozen_of_grows hg hb']
    exact hfz b off (by simpa using hm')
  · intro ha
    have := hnd ha
    simpa using this
  · intro x hx _
    simpa using hx
end
end Go.Ev
/-
  DERIVED: THE SHELF's CONTRACTS AT THIS DUMP, IN PLAIN WORDS (tools/lay-plain.mjs out of 'TrydLibA.lean', which tools/lay-shelf.mjs wrote): THE SAME DECLARATIONS UNDER THE SAME NAMES: 'import', 'namespace', 'open', 'def', 'theorem' AND NOTHING ELSE: no command of the shelf's: FOR A HAND-IN. Each laying: the table of numbers ('.._ren') and one theorem, a field a fact of the dump's own or the kernel's comparison; each contract: ONE APPLICATION.
-/
namespace Go.Proofs
open Go.Shelf
def Tryd.lays169_ren : Go.Shelf.Ren := ⟨fun | 169 => 113 | n => n, fun | 70 => 110 | 9 => 9 | 0 => 0 | 72 => 113 | 37 => 111 | 127 => 141 | 3 => 3 | 5 => 5 | n => n, fun | n => n⟩
theorem Tryd.lays169 : Go.Proofs.Lays.n169 Tryd.prog Tryd.lays169_ren := {
  mixed := by kernel_rfl
  f169 := Tryd.func113.trans (congrArg some (by kernel_rfl))
  t0 := Tryd.underlying0
  a0 := Tryd.isAgg0
  z0 := Tryd.sizeOf0
  v0 := Tryd.zeroValue0
  t3 := Tryd.underlying3
  a3 := Tryd.isAgg3
  z3 := Tryd.sizeOf3
  v3 := Tryd.zeroValue3
  t9 := Tryd.underlying9
  a9 := Tryd.isAgg9
  z9 := Tryd.sizeOf9
  v9 := Tryd.zeroValue9
  t37 := Tryd.underlying111
  a37 := Tryd.isAgg111
  z37 := Tryd.sizeOf111
  v37 := Tryd.zeroValue111
  t70 := Tryd.underlying110
  a70 := Tryd.isAgg110
  z70 := Tryd.sizeOf110
  v70 := Tryd.zeroValue110
  t72 := Tryd.underlying113
  a72 := Tryd.isAgg113
  z72 := Tryd.sizeOf113
  v72 := Tryd.zeroValue113
  t127 := Tryd.underlying141
  a127 := Tryd.isAgg141
  z127 := Tryd.sizeOf141
  v127 := Tryd.zeroValue141 }
theorem Tryd.Builder_Extra_169 : Builder.Extra Tryd.prog Tryd.lays169_ren := {
  sizeBuilder := by kernel_rfl
  liesBuilder := by kernel_rfl
  t5 := Tryd.underlying5
  a5 := Tryd.isAgg5
  z5 := Tryd.sizeOf5
  v5 := Tryd.zeroValue5
  infoByte := by kernel_rfl
  cellsByte := by kernel_rfl
  sizeByte := by kernel_rfl
  neB5 := by decide }
open Go.RowKit in
/-- (*strings.Builder).String: "String returns the accumulated string.": WHATEVER THE BUILDER HOLDS. (LAID: no walk: one application.) -/
theorem Tryd.Builder_String_any (B b : Nat) (l : List UInt8) (w : World) (h : Lib.IsBuilder 113 5 B b (Lib.byteCells l) w) (hBw : B ≤ w.heap.size) :
    Calls Tryd.prog 113 #[.pointer (some ⟨b, 0, none⟩)] w fun e w' => e = .returned (.string ⟨l.toArray⟩) ∧ Below B w w' := Any.Builder_String_any Tryd.lays169 Tryd.Builder_Extra_169 B b l w h hBw
def Tryd.lays283_ren : Go.Shelf.Ren := ⟨fun | 283 => 159 | n => n, fun | 3 => 3 | 9 => 9 | 4 => 4 | n => n, fun | n => n⟩
theorem Tryd.lays283 : Go.Proofs.Lays.n283 Tryd.prog Tryd.lays283_ren := {
  mixed := by kernel_rfl
  f283 := Tryd.func159.trans (congrArg some (by kernel_rfl))
  t3 := Tryd.underlying3
  a3 := Tryd.isAgg3
  z3 := Tryd.sizeOf3
  v3 := Tryd.zeroValue3
  t4 := Tryd.underlying4
  a4 := Tryd.isAgg4
  z4 := Tryd.sizeOf4
  v4 := Tryd.zeroValue4
  t9 := Tryd.underlying9
  a9 := Tryd.isAgg9
  z9 := Tryd.sizeOf9
  v9 := Tryd.zeroValue9 }
open Go.Lib in
/-- internal/strconv.small: "small returns the string for an i with 0 <= i < nSmalls.": i's decimal numeral. The world is as it was. (LAID: no walk: one application.) -/
theorem Tryd.internal_strconv_small (i : Nat) (h : i < 100) (w : World) :
    Calls Tryd.prog 159 #[.int .i64 i] w fun e w' => e = .returned (.string ⟨(Lib.decDigits i).toArray⟩) ∧ w' = w := Any.internal_strconv_small Tryd.lays283 i h w
def Tryd.laysM284_ren : Go.Shelf.Ren := ⟨fun | 284 => 160 | 129 => 177 | 317 => 176 | 318 => 178 | n => n, fun | 53 => 44 | 3 => 3 | 212 => 165 | 0 => 0 | 4 => 4 | 46 => 46 | 5 => 5 | 9 => 9 | n => n, fun | 17 => 0 | n => n⟩
theorem Tryd.laysM284 : Go.Proofs.LaysM.n284 Tryd.prog Tryd.laysM284_ren := {
  mixed := by kernel_rfl
  f129 := Tryd.func177.trans (congrArg some (by kernel_rfl))
  f284 := Tryd.func160.trans (congrArg some (by kernel_rfl))
  f317 := Tryd.func176.trans (congrArg some (by kernel_rfl))
  f318 := Tryd.func178.trans (congrArg some (by kernel_rfl))
  t0 := Tryd.underlying0
  a0 := Tryd.isAgg0
  z0 := Tryd.sizeOf0
  v0 := Tryd.zeroValue0
  t3 := Tryd.underlying3
  a3 := Tryd.isAgg3
  z3 := Tryd.sizeOf3
  v3 := Tryd.zeroValue3
  t4 := Tryd.underlying4
  a4 := Tryd.isAgg4
  z4 := Tryd.sizeOf4
  v4 := Tryd.zeroValue4
  t5 := Tryd.underlying5
  a5 := Tryd.isAgg5
  z5 := Tryd.sizeOf5
  v5 := Tryd.zeroValue5
  t9 := Tryd.underlying9
  a9 := Tryd.isAgg9
  z9 := Tryd.sizeOf9
  v9 := Tryd.zeroValue9
  t46 := Tryd.underlying46
  a46 := Tryd.isAgg46
  z46 := Tryd.sizeOf46
  v46 := Tryd.zeroValue46
  t53 := Tryd.underlying44
  a53 := Tryd.isAgg44
  z53 := Tryd.sizeOf44
  v53 := Tryd.zeroValue44
  t212 := Tryd.underlying165
  a212 := Tryd.isAgg165
  z212 := Tryd.sizeOf165
  v212 := Tryd.zeroValue165
  g17 := by kernel_rfl
  i0 := by kernel_rfl
  i3 := by kernel_rfl
  i4 := by kernel_rfl
  i5 := by kernel_rfl
  i9 := by kernel_rfl
  i46 := by kernel_rfl
  i53 := by kernel_rfl
  i212 := by kernel_rfl
  m17 := by kernel_rfl }
open Go.Lib in
/-- internal/strconv.numDigits, at a d that is not 0: THE NUMBER OF d's DECIMAL DIGITS. The world is as it was. (LAID: no walk: one application.) -/
theorem Tryd.internal_strconv_numDigits (u : Nat) (h1 : 1 ≤ u) (h2 : u < 18446744073709551616) (w : World) (htab : Lib.TabIs Tryd.prog w "internal/strconv.uint64pow10" .u64 Lib.pow10Tab) :
    Calls Tryd.prog 160 #[.int .u64 u] w fun e w' => e = .returned (.int .i64 (Lib.nDigits u)) ∧ w' = w := Any.internal_strconv_numDigits Tryd.laysM284 u h1 h2 w htab
def Tryd.lays285_ren : Go.Shelf.Ren := ⟨fun | 285 => 161 | n => n, fun | 37 => 111 | 53 => 44 | 3 => 3 | 4 => 4 | 51 => 33 | 9 => 9 | 5 => 5 | 0 => 0 | n => n, fun | n => n⟩
theorem Tryd.lays285 : Go.Proofs.Lays.n285 Tryd.prog Tryd.lays285_ren := {
  mixed := by kernel_rfl
  f285 := Tryd.func161.trans (congrArg some (by kernel_rfl))
  t0 := Tryd.underlying0
  a0 := Tryd.isAgg0
  z0 := Tryd.sizeOf0
  v0 := Tryd.zeroValue0
  t3 := Tryd.underlying3
  a3 := Tryd.isAgg3
  z3 := Tryd.sizeOf3
  v3 := Tryd.zeroValue3
  t4 := Tryd.underlying4
  a4 := Tryd.isAgg4
  z4 := Tryd.sizeOf4
  v4 := Tryd.zeroValue4
  t5 := Tryd.underlying5
  a5 := Tryd.isAgg5
  z5 := Tryd.sizeOf5
  v5 := Tryd.zeroValue5
  t9 := Tryd.underlying9
  a9 := Tryd.isAgg9
  z9 := Tryd.sizeOf9
  v9 := Tryd.zeroValue9
  t37 := Tryd.underlying111
  a37 := Tryd.isAgg111
  z37 := Tryd.sizeOf111
  v37 := Tryd.zeroValue111
  t51 := Tryd.underlying33
  a51 := Tryd.isAgg33
  z51 := Tryd.sizeOf33
  v51 := Tryd.zeroValue33
  t53 := Tryd.underlying44
  a53 := Tryd.isAgg44
  z53 := Tryd.sizeOf44
  v53 := Tryd.zeroValue44 }
open Go.RowKit Go.Sort Go.Lib in
/-- internal/strconv.formatBase10: "formatBase10 formats the decimal representation of u into a. The caller is responsible for ensuring that a is big enough to hold u. If a is too big, leading zeros will be filled in as needed.": THE ROW HOLDS u's DIGITS ('FmtInv .. 0 ..': every place t holds 'dg u (len - 1 - t)'); all else is as it was but for the count of draws. (LAID: no walk: one application.) -/
theorem Tryd.internal_strconv_formatBase10 (blk off cap : Nat) (u : Nat) (d : Array UInt8) (w : World) (hH : Holds (fun (b : UInt8) => Value.int .u8 (b.toNat : Int)) w blk off d) (hu : u < 10 ^ d.size) (hu64 : u < 18446744073709551616) (hsz : d.size < 4611686018427387904) :
    Calls Tryd.prog 161 #[.slice (some ⟨blk, off, none⟩) d.size cap, .int .u64 u] w fun e w' =>
      e = .returned (.tuple #[]) ∧ ∃ (n v' : Nat) (dk : Array UInt8), w' = (putRow (fun (b : UInt8) => Value.int .u8 (b.toNat : Int)) w blk off dk).drewN n ∧ FmtInv d.size u 0 v' dk := Any.internal_strconv_formatBase10 Tryd.lays285 blk off cap u d w hH hu hu64 hsz
def Tryd.laysM171_ren : Go.Shelf.Ren := ⟨fun | 171 => 96 | 243 => 139 | 246 => 158 | 283 => 159 | 284 => 160 | 285 => 161 | 286 => 162 | 129 => 177 | 317 => 176 | 318 => 178 | 319 => 179 | 320 => 143 | 337 => 164 | 338 => 165 | n => n, fun | 3 => 3 | 9 => 9 | 2 => 2 | 4 => 4 | 171 => 152 | 0 => 0 | 53 => 44 | 37 => 111 | 5 => 5 | 173 => 154 | 212 => 165 | 51 => 33 | 20 => 20 | 213 => 166 | 46 => 46 | 232 => 167 | 233 => 168 | n => n, fun | 17 => 0 | 18 => 1 | 19 => 2 | n => n⟩
theorem Tryd.laysM171 : Go.Proofs.LaysM.n171 Tryd.prog Tryd.laysM171_ren := {
  mixed := by kernel_rfl
  f129 := Tryd.func177.trans (congrArg some (by kernel_rfl))
  f171 := Tryd.func96.trans (congrArg some (by kernel_rfl))
  f243 := Tryd.func139.trans (congrArg some (by kernel_rfl))
  f246 := Tryd.func158.trans (congrArg some (by kernel_rfl))
  f283 := Tryd.func159.trans (congrArg some (by kernel_rfl))
  f284 := Tryd.func160.trans (congrArg some (by kernel_rfl))
  f285 := Tryd.func161.trans (congrArg some (by kernel_rfl))
  f286 := Tryd.func162.trans (congrArg some (by kernel_rfl))
  f317 := Tryd.func176.trans (congrArg some (by kernel_rfl))
  f318 := Tryd.func178.trans (congrArg some (by kernel_rfl))
  f319 := Tryd.func179.trans (congrArg some (by kernel_rfl))
  f320 := Tryd.func143.trans (congrArg some (by kernel_rfl))
  f337 := Tryd.func164.trans (congrArg some (by kernel_rfl))
  f338 := Tryd.func165.trans (congrArg some (by kernel_rfl))
  t0 := Tryd.underlying0
  a0 := Tryd.isAgg0
  z0 := Tryd.sizeOf0
  v0 := Tryd.zeroValue0
  t2 := Tryd.underlying2
  a2 := Tryd.isAgg2
  z2 := Tryd.sizeOf2
  v2 := Tryd.zeroValue2
  t3 := Tryd.underlying3
  a3 := Tryd.isAgg3
  z3 := Tryd.sizeOf3
  v3 := Tryd.zeroValue3
  t4 := Tryd.underlying4
  a4 := Tryd.isAgg4
  z4 := Tryd.sizeOf4
  v4 := Tryd.zeroValue4
  t5 := Tryd.underlying5
  a5 := Tryd.isAgg5
  z5 := Tryd.sizeOf5
  v5 := Tryd.zeroValue5
  t9 := Tryd.underlying9
  a9 := Tryd.isAgg9
  z9 := Tryd.sizeOf9
  v9 := Tryd.zeroValue9
  t20 := Tryd.underlying20
  a20 := Tryd.isAgg20
  z20 := Tryd.sizeOf20
  v20 := Tryd.zeroValue20
  t37 := Tryd.underlying111
  a37 := Tryd.isAgg111
  z37 := Tryd.sizeOf111
  v37 := Tryd.zeroValue111
  t46 := Tryd.underlying46
  a46 := Tryd.isAgg46
  z46 := Tryd.sizeOf46
  v46 := Tryd.zeroValue46
  t51 := Tryd.underlying33
  a51 := Tryd.isAgg33
  z51 := Tryd.sizeOf33
  v51 := Tryd.zeroValue33
  t53 := Tryd.underlying44
  a53 := Tryd.isAgg44
  z53 := Tryd.sizeOf44
  v53 := Tryd.zeroValue44
  t171 := Tryd.underlying152
  a171 := Tryd.isAgg152
  z171 := Tryd.sizeOf152
  v171 := Tryd.zeroValue152
  t173 := Tryd.underlying154
  a173 := Tryd.isAgg154
  z173 := Tryd.sizeOf154
  v173 := Tryd.zeroValue154
  t212 := Tryd.underlying165
  a212 := Tryd.isAgg165
  z212 := Tryd.sizeOf165
  v212 := Tryd.zeroValue165
  t213 := Tryd.underlying166
  a213 := Tryd.isAgg166
  z213 := Tryd.sizeOf166
  t232 := Tryd.underlying167
  a232 := Tryd.isAgg167
  z232 := Tryd.sizeOf167
  v232 := Tryd.zeroValue167
  t233 := Tryd.underlying168
  a233 := Tryd.isAgg168
  z233 := Tryd.sizeOf168
  v233 := Tryd.zeroValue168
  g17 := by kernel_rfl
  g18 := by kernel_rfl
  g19 := by kernel_rfl
  i0 := by kernel_rfl
  i2 := by kernel_rfl
  i3 := by kernel_rfl
  i4 := by kernel_rfl
  i5 := by kernel_rfl
  i9 := by kernel_rfl
  i20 := by kernel_rfl
  i37 := by kernel_rfl
  i46 := by kernel_rfl
  i51 := by kernel_rfl
  i53 := by kernel_rfl
  i171 := by kernel_rfl
  i173 := by kernel_rfl
  i212 := by kernel_rfl
  i232 := by kernel_rfl
  i233 := by kernel_rfl
  m17 := by kernel_rfl
  m18 := by kernel_rfl
  m19 := by kernel_rfl }
open Go.RowKit Go.Sort Go.Lib in
/-- strconv.Itoa: "Itoa is equivalent to FormatInt(int64(i), 10).": i's DECIMAL NUMERAL ('Lib.itoa': a '-' where i is negative, then the digits), FOR EVERY int. The world behind the call: the world before it, new blocks behind the heap (the library's 'var a [24]byte'), draws. (LAID: no walk: one application.) -/
theorem Tryd.strconv_Itoa (n : Int) (h0 : -9223372036854775808 ≤ n) (h1 : n ≤ 9223372036854775807) (w : World) (htab : Lib.TabIs Tryd.prog w "internal/strconv.uint64pow10" .u64 Lib.pow10Tab) :
    Calls Tryd.prog 96 #[.int .i64 n] w fun e w' => e = .returned (.string ⟨(Lib.itoa n).toArray⟩) ∧ ∃ k os, w' = grow (w.drewN k) os := Any.strconv_Itoa Tryd.laysM171 n h0 h1 w htab
end Go.Proofs
/- Numerals: the library's contract, as one of ours. -/
set_option linter.unusedVariables false
set_option linter.unusedSimpArgs false
namespace Go.Ev.D
open Go.Proofs
theorem pow_tab {S : Stab} {w : World} (h : Tab S w) : Lib.TabIs Tryd.prog w "internal/strconv.uint64pow10" .u64 Lib.pow10Tab := by
  have h0 := fun o => (h (0, Lib.pow10Tab.map fun z => Value.int .u64 z) (List.mem_cons_self ..) o).2
  have hg : Tryd.prog.globalNamed "internal/strconv.uint64pow10" = some 0 := by kernel_rfl
  unfold Lib.TabIs World.var?
  rw [hg]
  simp only [Option.bind_some]
  have h1 := h0 0
  have e1 : (Lib.pow10Tab.map fun z => Value.int IntKind.u64 z)[0]? = some (.int .u64 1) := by simp [Lib.pow10Tab]
  simp only at h0 h1
  rw [e1] at h1
  cases hb : w.heap[0]? with
  | none => simp [World.cell?, hb] at h1
  | some o =>
    cases o with
    | cells cs t fr =>
      simp only
      congr 1
      apply Array.ext_getElem?
      intro i
      have := h0 i
      simp only [World.cell?, hb] at this
      simpa using this
    | _ => simp [World.cell?, hb] at h1
def itoaC : Ctr := { args := [.int .i64], res := [.str], pre := none, fn := fun (x : Int) => itoaF x }
theorem itoa_ok : CtrOK Tryd.prog 96 itoaC := by
  refine ⟨⟨_, fnOf_eq (by kernel_rfl), by kernel_rfl, by kernel_rfl⟩, ?_⟩
  intro w S us (x : Int) hS hT henc _
  obtain ⟨cs, h1, rfl⟩ := henc
  obtain ⟨rfl, h2⟩ : cs = [.int .i64 x] ∧ IntKind.i64.has x := h1
  rw [has_i64] at h2
  refine (Tryd.strconv_Itoa x h2.1 h2.2 w (pow_tab hT)).mono ?_
  rintro e w' ⟨rfl, k, os, rfl⟩
  refine ⟨_, rfl, ⟨rfl, rfl, rfl, by simp [Go.Sort.grow], fun k hk => by simp [Go.Sort.grow, Array.getElem?_append_left hk]⟩, fun _ _ => False, fun _ _ h => h.elim, [_], ⟨[.string ⟨⟨itoaF x⟩⟩], ⟨rfl, by have := itoaF_len x; show (itoaF x).length ≤ maxStr; unfold maxStr; omega⟩, rfl⟩, ?_⟩
  rw [itoa_eq h2.1 h2.2]
  rfl
end Go.Ev.D
/- The functions of 'count' keep their contracts. -/
set_option linter.unusedVariables false
set_option linter.unusedSimpArgs false
namespace Go.Ev.D
open Go.Proofs
abbrev g8 : GTy := .arr 8 (.int .i64)
theorem in_iff {w : Int} : inF w = true ↔ 0 ≤ w ∧ w < 8 := by
  unfold inF
  by_cases h : w < 0
  · have : decide (w < 0) = true := by simpa using h
    rw [this]; simp; omega
  · have : decide (w < 0) = false := by simpa using h
    rw [this]; simp; omega
theorem out_in (w : Int) : (bif decide (w < 0) then true else decide (w ≥ 8)) = !inF w := by
  unfold inF
  by_cases h : w < 0
  · have : decide (w < 0) = true := by simpa using h
    rw [this]; rfl
  · have : decide (w < 0) = false := by simpa using h
    rw [this]
    by_cases h8 : w < 8
    · have e1 : decide (w < 8) = true := by simpa using h8
      have e2 : decide (w ≥ 8) = false := by simpa using h8
      rw [e1, e2]; rfl
    · have e1 : decide (w < 8) = false := by simpa using h8
      have e2 : decide (w ≥ 8) = true := by simp; omega
      rw [e1, e2]; rfl
def cmostC : Ctr := { args := [], res := [.int .i64], pre := none, fn := fun (x : Unit) => (1152921504606846976 : Int) }
def cmostG : List (Nat × Ctr) := []
theorem cmost_tree : (fun x : Unit => evFn (mkC tys cmostG []) (fnOf Tryd.prog 94) (resL cmostC.args x) cmostC.res) =
  (fun x => Tree.leaf (1152921504606846976 : Int)) := by kernel_rfl
theorem cmost_ok : CtrOK Tryd.prog 94 cmostC :=
  fun_ok (G := cmostG) (Λ := []) tysOK ctrs_nil mixed (by kernel_rfl) (by kernel_rfl) (by kernel_rfl) (by kernel_rfl) lp_nil fun (x : Unit) hw _ => by
    rw [congrFun cmost_tree x]
    exact holds_val (d := cmostC.fn x) (by kernel_rfl) (by simp [Tree.safe])
def caddC : Ctr := { args := [g8, .int .i64, .int .i64], res := [g8], pre := none, fn := fun (x : List Int × Int × Int) => caddF x.1 x.2.1 x.2.2 }
theorem cadd_tree : (fun x : List Int × Int × Int => evFn (mkC tys [] []) (fnOf Tryd.prog 17) (resL caddC.args x) caddC.res) =
  (fun x =>
    Tree.need (((bif bif decide (x.2.1 < (0 : Int)) then true else decide (x.2.1 ≥ (8 : Int)) then true else decide (x.2.2 ≤ (0 : Int))) == false && true) = true → (0 : Int) ≤ x.2.1 ∧ x.2.1 < (8 : Int))
      (Tree.need
        (((bif bif bif decide (x.2.1 < (0 : Int)) then true else decide (x.2.1 ≥ (8 : Int)) then true else decide (x.2.2 ≤ (0 : Int)) then true
                else decide (List.getD x.1 (Int.toNat x.2.1) (0 : Int) < (0 : Int))) ==
                false &&
              true) =
            true →
          (0 : Int) ≤ x.2.1 ∧ x.2.1 < (8 : Int))
        (Tree.br
          (bif
              bif bif bif decide (x.2.1 < (0 : Int)) then true else decide (x.2.1 ≥ (8 : Int)) then true else decide (x.2.2 ≤ (0 : Int)) then true
              else decide (List.getD x.1 (Int.toNat x.2.1) (0 : Int) < (0 : Int)) then
            true
          else decide (List.getD x.1 (Int.toNat x.2.1) (0 : Int) > (1152921504606846976 : Int)))
          (Tree.leaf x.1)
          (Tree.need ((0 : Int) ≤ x.2.1 ∧ x.2.1 < (8 : Int))
            (Tree.need ((0 : Int) ≤ x.2.1 ∧ x.2.1 < (8 : Int))
              (Tree.need ((0 : Int) ≤ x.2.1 ∧ x.2.1 < (8 : Int))
                (Tree.leaf
                  (List.set x.1 (Int.toNat x.2.1)
                    (IntKind.wrap IntKind.i64
                      (List.getD x.1 (Int.toNat x.2.1) (0 : Int) +
                        if IntKind.wrap IntKind.i64 ((1152921504606846976 : Int) - List.getD x.1 (Int.toNat x.2.1) (0 : Int)) < x.2.2 then
                          IntKind.wrap IntKind.i64 ((1152921504606846976 : Int) - List.getD x.1 (Int.toNat x.2.1) (0 : Int))
                        else x.2.2)))))))))) := by kernel_rfl
theorem cadd_ok : CtrOK Tryd.prog 17 caddC :=
  fun_ok (G := []) (Λ := []) tysOK ctrs_nil mixed (by kernel_rfl) (by kernel_rfl) (by kernel_rfl) (by kernel_rfl) lp_nil fun (x : List Int × Int × Int) hw _ => by
    rw [congrFun cadd_tree x]
    obtain ⟨l, w, n⟩ := x
    have hl : l.length = 8 := hw.1.1
    have e : caddC.fn (l, w, n) = caddF l w n := rfl
    rw [e]
    simp only [Tree.holds]
    rw [out_in]
    unfold caddF
    cases hi : inF w with
    | false => exact ⟨(fun h => by cases h), (fun h => by cases h), fun _ => rfl, (fun h => by cases h)⟩
    | true =>
      have hw2 := in_iff.1 hi
      exact ⟨fun _ => hw2, fun _ => hw2, fun h => by
        show l = l.set w.toNat (satF (l.getD w.toNat 0) n)
        rw [sat_stop h, set_same (by omega)], fun h => ⟨hw2, hw2, hw2, by
        show l.set w.toNat _ = l.set w.toNat (satF (l.getD w.toNat 0) n)
        rw [← sat_more h]⟩⟩
def rcaddG : List (Nat × Ctr) := [(94, cmostC)]
theorem rcaddG_ok : CtrsOK Tryd.prog (fun f => lk f rcaddG) := (ctrs_cons cmost_ok ctrs_nil)
def rcaddC : Ctr := { args := [g8, .int .i64, .int .i64], res := [g8], pre := none, fn := fun (x : List Int × Int × Int) => caddF x.1 x.2.1 x.2.2 }
theorem rcadd_tree : (fun x : List Int × Int × Int => evFn (mkC tys rcaddG []) (fnOf Tryd.prog 18) (resL rcaddC.args x) rcaddC.res) =
  (fun x =>
    Tree.need (((bif bif decide (x.2.1 < (0 : Int)) then true else decide (x.2.1 ≥ (8 : Int)) then true else decide (x.2.2 ≤ (0 : Int))) == false && true) = true → (0 : Int) ≤ x.2.1 ∧ x.2.1 < (8 : Int))
      (Tree.br
        (bif bif bif decide (x.2.1 < (0 : Int)) then true else decide (x.2.1 ≥ (8 : Int)) then true else decide (x.2.2 ≤ (0 : Int)) then true
        else decide (List.getD x.1 (Int.toNat x.2.1) (0 : Int) < (0 : Int)))
        (Tree.leaf x.1)
        (Tree.need ((0 : Int) ≤ x.2.1 ∧ x.2.1 < (8 : Int))
          (Tree.need ((decide (List.getD x.1 (Int.toNat x.2.1) (0 : Int) ≥ (1152921504606846976 : Int)) == false && true) = true → (0 : Int) ≤ x.2.1 ∧ x.2.1 < (8 : Int))
            (Tree.br
              (bif decide (List.getD x.1 (Int.toNat x.2.1) (0 : Int) ≥ (1152921504606846976 : Int)) then true
              else decide (x.2.2 ≥ IntKind.wrap IntKind.i64 ((1152921504606846976 : Int) - List.getD x.1 (Int.toNat x.2.1) (0 : Int))))
              (Tree.need ((0 : Int) ≤ x.2.1 ∧ x.2.1 < (8 : Int))
                (Tree.need ((0 : Int) ≤ x.2.1 ∧ x.2.1 < (8 : Int))
                  (Tree.leaf
                    (List.set x.1 (Int.toNat x.2.1)
                      (if List.getD x.1 (Int.toNat x.2.1) (0 : Int) < (1152921504606846976 : Int) then (1152921504606846976 : Int) else List.getD x.1 (Int.toNat x.2.1) (0 : Int))))))
              (Tree.need ((0 : Int) ≤ x.2.1 ∧ x.2.1 < (8 : Int))
                (Tree.need ((0 : Int) ≤ x.2.1 ∧ x.2.1 < (8 : Int)) (Tree.leaf (List.set x.1 (Int.toNat x.2.1) (IntKind.wrap IntKind.i64 (List.getD x.1 (Int.toNat x.2.1) (0 : Int) + x.2.2))))))))))) := by kernel_rfl
theorem rcadd_ok : CtrOK Tryd.prog 18 rcaddC :=
  fun_ok (G := rcaddG) (Λ := []) tysOK rcaddG_ok mixed (by kernel_rfl) (by kernel_rfl) (by kernel_rfl) (by kernel_rfl) lp_nil fun (x : List Int × Int × Int) hw _ => by
    rw [congrFun rcadd_tree x]
    obtain ⟨l, w, n⟩ := x
    have hl : l.length = 8 := hw.1.1
    have hv : IntKind.i64.has (l.getD w.toNat 0) := by
      by_cases hlt : w.toNat < l.length
      · exact hw.1.2 _ (by simp [List.getD, hlt])
      · simp [List.getD, Nat.not_lt.1 hlt, has_i64]
    rw [has_i64] at hv
    have e : rcaddC.fn (l, w, n) = caddF l w n := rfl
    rw [e]
    simp only [Tree.holds]
    rw [out_in]
    unfold caddF
    cases hi : inF w with
    | false => exact ⟨(fun h => by cases h), fun _ => rfl, (fun h => by cases h)⟩
    | true =>
      have hw2 := in_iff.1 hi
      exact ⟨fun _ => hw2, fun h => by
        show l = l.set w.toNat (satF (l.getD w.toNat 0) n)
        rw [sat_neg h, set_same (by omega)], fun h => ⟨hw2, fun _ => hw2, fun h4 => ⟨hw2, hw2, by
        show l.set w.toNat _ = l.set w.toNat (satF (l.getD w.toNat 0) n)
        rw [← sat_full hv.2 h h4]⟩, fun h4 => ⟨hw2, hw2, by
        show l.set w.toNat _ = l.set w.toNat (satF (l.getD w.toNat 0) n)
        rw [← sat_room hv.2 h h4]⟩⟩⟩
def cgetC : Ctr := { args := [g8, .int .i64], res := [.int .i64], pre := none, fn := fun (x : List Int × Int) => cgetF x.1 x.2 }
theorem cget_tree : (fun x : List Int × Int => evFn (mkC tys [] []) (fnOf Tryd.prog 19) (resL cgetC.args x) cgetC.res) =
  (fun x =>
    Tree.br (bif decide (x.2 < (0 : Int)) then true else decide (x.2 ≥ (8 : Int))) (Tree.leaf (0 : Int))
      (Tree.need ((0 : Int) ≤ x.2 ∧ x.2 < (8 : Int)) (Tree.leaf (List.getD x.1 (Int.toNat x.2) (0 : Int))))) := by kernel_rfl
theorem cget_ok : CtrOK Tryd.prog 19 cgetC :=
  fun_ok (G := []) (Λ := []) tysOK ctrs_nil mixed (by kernel_rfl) (by kernel_rfl) (by kernel_rfl) (by kernel_rfl) lp_nil fun (x : List Int × Int) hw _ => by
    rw [congrFun cget_tree x]
    have e : cgetC.fn x = cgetF x.1 x.2 := rfl
    rw [e]
    simp only [Tree.holds]
    rw [out_in]
    unfold cgetF
    cases hi : inF x.2 with
    | false => exact ⟨fun _ => rfl, (fun h => by cases h)⟩
    | true => exact ⟨(fun h => by cases h), fun _ => ⟨in_iff.1 hi, rfl⟩⟩
theorem rcget_tree : (fun x : List Int × Int => evFn (mkC tys [] []) (fnOf Tryd.prog 20) (resL cgetC.args x) cgetC.res) =
  (fun x =>
    Tree.br (bif decide (x.2 < (0 : Int)) then true else decide (x.2 ≥ (8 : Int))) (Tree.leaf (0 : Int))
      (Tree.need ((0 : Int) ≤ x.2 ∧ x.2 < (8 : Int)) (Tree.leaf (List.getD x.1 (Int.toNat x.2) (0 : Int))))) := by kernel_rfl
def rcgetC : Ctr := cgetC
theorem rcget_ok : CtrOK Tryd.prog 20 rcgetC :=
  fun_ok (c := cgetC) (G := []) (Λ := []) tysOK ctrs_nil mixed (by kernel_rfl) (by kernel_rfl) (by kernel_rfl) (by kernel_rfl) lp_nil fun (x : List Int × Int) hw _ => by
    rw [congrFun rcget_tree x]
    have e : cgetC.fn x = cgetF x.1 x.2 := rfl
    rw [e]
    simp only [Tree.holds]
    rw [out_in]
    unfold cgetF
    cases hi : inF x.2 with
    | false => exact ⟨fun _ => rfl, (fun h => by cases h)⟩
    | true => exact ⟨(fun h => by cases h), fun _ => ⟨in_iff.1 hi, rfl⟩⟩
def wordsC : Ctr := { args := [], res := [.arr 8 .str], pre := none, fn := fun (x : Unit) => wordsL }
def wordsG : List (Nat × Ctr) := []
theorem words_tree : (fun x : Unit => evFn (mkC tys wordsG []) (fnOf Tryd.prog 95) (resL wordsC.args x) wordsC.res) =
  (fun x =>
    Tree.leaf
      [[(102 : UInt8), (114 : UInt8), (97 : UInt8), (109 : UInt8), (101 : UInt8), (115 : UInt8)], [(98 : UInt8), (97 : UInt8), (100 : UInt8)], [(111 : UInt8), (108 : UInt8), (100 : UInt8)],
        [(104 : UInt8), (101 : UInt8), (114 : UInt8), (101 : UInt8)], [(111 : UInt8), (110 : UInt8)], [(116 : UInt8), (116 : UInt8), (108 : UInt8)],
        [(110 : UInt8), (111 : UInt8), (110 : UInt8), (101 : UInt8)], [(114 : UInt8), (101 : UInt8), (115 : UInt8), (101 : UInt8), (116 : UInt8)]]) := by kernel_rfl
theorem words_ok : CtrOK Tryd.prog 95 wordsC :=
  fun_ok (G := wordsG) (Λ := []) tysOK ctrs_nil mixed (by kernel_rfl) (by kernel_rfl) (by kernel_rfl) (by kernel_rfl) lp_nil fun (x : Unit) hw _ => by
    rw [congrFun words_tree x]
    exact holds_val (d := wordsC.fn x) (by kernel_rfl) (by simp [Tree.safe])
end Go.Ev.D
/- Counts added up, and told. -/
set_option linter.unusedVariables false
set_option linter.unusedSimpArgs false
namespace Go.Ev.D
open Go.Proofs
def csumG : List (Nat × Ctr) := [(17, caddC)]
theorem csumG_ok : CtrsOK Tryd.prog (fun f => lk f csumG) := (ctrs_cons cadd_ok ctrs_nil)
def csumI : LoopD where
  prom := []
  ts := [(3, .ptr 3 g8), (14, .val g8), (15, .val (.int .i64))]
  bs := [(3, .var g8)]
  pre := fun (x : (List Int × Int × Unit) × (List Int × Unit)) => 0 ≤ x.1.2.1 ∧ x.1.2.1 ≤ 8 ∧ x.2.1.length = 8
  out := fun (x : (List Int × Int × Unit) × (List Int × Unit)) => .leaf (.exit 2, ((x.1.1, 8, ()), (restF 8 (fun j v => satF v (x.1.1.getD j 0)) x.1.2.1.toNat x.2.1, ())))
def csumO : LoopD where
  prom := []
  ts := [(3, .ptr 3 g8), (8, .val (.sl g8)), (9, .val (.int .i64)), (10, .val (.int .i64))]
  bs := [(3, .var g8)]
  pre := fun (x : (List (List Int) × Int × Int × Unit) × (List Int × Unit)) => 0 ≤ x.1.2.2.1 ∧ x.1.2.2.1 ≤ x.1.2.1 ∧ x.1.2.1 = x.1.1.length ∧ x.1.2.1 ≤ 4611686018427387904 ∧ x.2.1.length = 8
  out := fun (x : (List (List Int) × Int × Int × Unit) × (List Int × Unit)) => .leaf (.exit 0, ((x.1.1, x.1.2.1, x.1.2.1, ()), ((x.1.1.drop x.1.2.2.1.toNat).foldl plusF x.2.1, ())))
theorem csum_outer : (fun x : (List (List Int) × Int × Int × Unit) × (List Int × Unit) => roundOf (mkC tys csumG [(2, csumI.spec), (0, csumO.spec)]) csumO (loopB 0 (bodyOf (fnOf Tryd.prog 21))) x) =
  (fun x =>
    Tree.br (decide (x.1.2.2.1 < x.1.2.1))
      (Tree.need ((0 : Int) ≤ x.1.2.2.1 ∧ x.1.2.2.1 < (↑(List.length x.1.1) : Int))
        (Tree.need ((0 : Int) ≤ (0 : Int) ∧ (0 : Int) ≤ (8 : Int) ∧ List.length x.2.1 = (8 : Nat))
          (Tree.leaf
            (Ex.normal,
              some
                ((x.1.1, x.1.2.1, IntKind.wrap IntKind.i64 (x.1.2.2.1 + (1 : Int)), ()),
                  restF (8 : Nat) (fun j v => satF v (List.getD (List.getD x.1.1 (Int.toNat x.1.2.2.1) (List.replicate (8 : Nat) (0 : Int))) j (0 : Int))) (Int.toNat (0 : Int)) x.2.1, ())))))
      (Tree.leaf (Ex.exit (0 : Nat), some ((x.1.1, x.1.2.1, x.1.2.2.1, ()), x.2.1, ())))) := by kernel_rfl
theorem csum_loop : LoopOK (mkC tys csumG [(2, csumI.spec), (0, csumO.spec)]) csumO.spec (loopB 0 (bodyOf (fnOf Tryd.prog 21))) :=
  loopD_ok1 (fun _ => rfl) (fun x => congrFun csum_outer x) (fun (x : (List (List Int) × Int × Int × Unit) × (List Int × Unit)) => (x.1.2.1 - x.1.2.2.1).toNat) fun (x : (List (List Int) × Int × Int × Unit) × (List Int × Unit)) hp => by
    obtain ⟨⟨l, n, i, ⟨⟩⟩, o, ⟨⟩⟩ := x
    obtain ⟨h1, h2, h3, h4, h5⟩ := hp
    simp only at h1 h2 h3 h4 h5
    simp only [Tree.holds]
    refine ⟨fun h => ?_, fun h => ?_⟩
    · have h' : i < n := by simpa using h
      have e : IntKind.i64.wrap (i + 1) = i + 1 := i64_id (by omega) (by omega)
      refine ⟨⟨h1, by omega⟩, ⟨by omega, by omega, h5⟩, _, rfl, ⟨?_, ?_, h3, h4, (by show (restF 8 (fun j v => satF v ((l.getD i.toNat (List.replicate 8 0)).getD j 0)) 0 o).length = 8; exact restF_len)⟩, ?_, ?_⟩
      · show 0 ≤ IntKind.i64.wrap (i + 1); omega
      · show IntKind.i64.wrap (i + 1) ≤ n; omega
      · show (n - IntKind.i64.wrap (i + 1)).toNat < (n - i).toNat; omega
      · show (Ex.exit 0, ((l, n, n, ()), ((l.drop (IntKind.i64.wrap (i + 1)).toNat).foldl plusF (plusF o (l.getD i.toNat (List.replicate 8 0))), ()))) = (Ex.exit 0, ((l, n, n, ()), ((l.drop i.toNat).foldl plusF o, ())))
        rw [e, drop_row (l := l) (List.replicate 8 0) h1 (by omega)]
        rfl
    · have h' : ¬ i < n := by simpa using h
      have hi : i = n := by omega
      subst hi
      refine ⟨_, rfl, ?_⟩
      show (Ex.exit 0, ((l, i, i, ()), ((l.drop i.toNat).foldl plusF o, ()))) = _
      rw [List.drop_eq_nil_of_le (by omega)]
      rfl
theorem csum_round2 : (fun x : (List Int × Int × Unit) × (List Int × Unit) => roundOf (mkC tys csumG [(2, csumI.spec), (0, csumO.spec)]) csumI (loopB 2 (bodyOf (fnOf Tryd.prog 21))) x) =
  (fun x =>
    Tree.br (decide (x.1.2.1 < (8 : Int)))
      (Tree.need ((0 : Int) ≤ x.1.2.1 ∧ x.1.2.1 < (8 : Int))
        (Tree.leaf (Ex.normal, some ((x.1.1, IntKind.wrap IntKind.i64 (x.1.2.1 + (1 : Int)), ()), caddF x.2.1 x.1.2.1 (List.getD x.1.1 (Int.toNat x.1.2.1) (0 : Int)), ()))))
      (Tree.leaf (Ex.exit (2 : Nat), some ((x.1.1, x.1.2.1, ()), x.2.1, ())))) := by kernel_rfl
theorem csum_inner2 : LoopOK (mkC tys csumG [(2, csumI.spec), (0, csumO.spec)]) csumI.spec (loopB 2 (bodyOf (fnOf Tryd.prog 21))) :=
  loopD_ok1 (fun _ => rfl) (fun x => congrFun csum_round2 x) (fun (x : (List Int × Int × Unit) × (List Int × Unit)) => (8 - x.1.2.1).toNat) fun (x : (List Int × Int × Unit) × (List Int × Unit)) hp => by
    obtain ⟨⟨l, i, ⟨⟩⟩, o, ⟨⟩⟩ := x
    obtain ⟨h1, h2, h3⟩ := hp
    simp only at h1 h2 h3
    simp only [Tree.holds]
    refine ⟨fun h => ?_, fun h => ?_⟩
    · have h' : i < 8 := by simpa using h
      have e : IntKind.i64.wrap (i + 1) = i + 1 := i64_id (by omega) (by omega)
      refine ⟨⟨h1, h'⟩, _, rfl, ⟨?_, ?_, ?_⟩, ?_, ?_⟩
      · show 0 ≤ IntKind.i64.wrap (i + 1); omega
      · show IntKind.i64.wrap (i + 1) ≤ 8; omega
      · show (caddF o i (l.getD i.toNat 0)).length = 8
        rw [cadd_at h1 h', List.length_set, h3]
      · show (8 - IntKind.i64.wrap (i + 1)).toNat < (8 - i).toNat; omega
      · show (Ex.exit 2, ((l, (8 : Int), ()), (restF 8 (fun j v => satF v (l.getD j 0)) (IntKind.i64.wrap (i + 1)).toNat (caddF o i (l.getD i.toNat 0)), ()))) = (Ex.exit 2, ((l, (8 : Int), ()), (restF 8 (fun j v => satF v (l.getD j 0)) i.toNat o, ())))
        have hs := restF_step (f := fun j v => satF v (l.getD j 0)) (i := i.toNat) h3 (by omega)
        rw [e, cadd_at h1 h', show (i + 1).toNat = i.toNat + 1 by omega, hs]
    · have h' : ¬ i < 8 := by simpa using h
      have hi : i = 8 := by omega
      subst hi
      refine ⟨_, rfl, ?_⟩
      show (Ex.exit 2, ((l, (8 : Int), ()), (restF 8 (fun j v => satF v (l.getD j 0)) 8 o, ()))) = _
      rw [restF_all h3 (by omega)]
      rfl
def csumC : Ctr := { args := [.sl g8], res := [g8], pre := none, fn := fun (x : List (List Int)) => csumF x }
theorem csum_tree : (fun x : List (List Int) => evFn (mkC tys csumG [(2, csumI.spec), (0, csumO.spec)]) (fnOf Tryd.prog 21) (resL csumC.args x) csumC.res) =
  (fun x =>
    Tree.need
      ((0 : Int) ≤ (0 : Int) ∧
        (0 : Int) ≤ (↑(List.length x) : Int) ∧ (↑(List.length x) : Int) = (↑(List.length x) : Int) ∧ (↑(List.length x) : Int) ≤ (4611686018427387904 : Int) ∧ (8 : Nat) = (8 : Nat))
      (Tree.leaf (List.foldl plusF (List.replicate (8 : Nat) (0 : Int)) (List.drop (Int.toNat (0 : Int)) x)))) := by kernel_rfl
theorem csum_ok : CtrOK Tryd.prog 21 csumC :=
  fun_ok (G := csumG) (Λ := [(2, csumI.spec), (0, csumO.spec)]) tysOK csumG_ok mixed (by kernel_rfl) (by kernel_rfl) (by kernel_rfl) (by kernel_rfl) (lp_cons csum_inner2 (lp_cons csum_loop lp_nil)) fun (x : List (List Int)) hw _ => by
    rw [congrFun csum_tree x]
    have hl : x.length ≤ 140737488355328 := hw.1
    simp only [Tree.holds]
    exact ⟨⟨by omega, by omega, trivial, by omega, trivial⟩, rfl⟩
def rcsumG : List (Nat × Ctr) := [(18, rcaddC)]
theorem rcsumG_ok : CtrsOK Tryd.prog (fun f => lk f rcsumG) := (ctrs_cons rcadd_ok ctrs_nil)
def rcsumO : LoopD where
  prom := []
  ts := [(3, .ptr 3 g8), (8, .val (.sl g8)), (9, .val (.int .i64)), (10, .val (.int .i64))]
  bs := [(3, .var g8)]
  pre := fun (x : (List (List Int) × Int × Int × Unit) × (List Int × Unit)) => 0 ≤ x.1.2.2.1 ∧ x.1.2.2.1 ≤ x.1.2.1 ∧ x.1.2.1 = x.1.1.length ∧ x.1.2.1 ≤ 4611686018427387904 ∧ x.2.1.length = 8
  out := fun (x : (List (List Int) × Int × Int × Unit) × (List Int × Unit)) => .leaf (.exit 0, ((x.1.1, x.1.2.1, x.1.2.1, ()), ((x.1.1.drop x.1.2.2.1.toNat).foldl plusF x.2.1, ())))
theorem rcsum_outer : (fun x : (List (List Int) × Int × Int × Unit) × (List Int × Unit) => roundOf (mkC tys rcsumG [(2, csumI.spec), (0, rcsumO.spec)]) rcsumO (loopB 0 (bodyOf (fnOf Tryd.prog 22))) x) =
  (fun x =>
    Tree.br (decide (x.1.2.2.1 < x.1.2.1))
      (Tree.need ((0 : Int) ≤ x.1.2.2.1 ∧ x.1.2.2.1 < (↑(List.length x.1.1) : Int))
        (Tree.need ((0 : Int) ≤ (0 : Int) ∧ (0 : Int) ≤ (8 : Int) ∧ List.length x.2.1 = (8 : Nat))
          (Tree.leaf
            (Ex.normal,
              some
                ((x.1.1, x.1.2.1, IntKind.wrap IntKind.i64 (x.1.2.2.1 + (1 : Int)), ()),
                  restF (8 : Nat) (fun j v => satF v (List.getD (List.getD x.1.1 (Int.toNat x.1.2.2.1) (List.replicate (8 : Nat) (0 : Int))) j (0 : Int))) (Int.toNat (0 : Int)) x.2.1, ())))))
      (Tree.leaf (Ex.exit (0 : Nat), some ((x.1.1, x.1.2.1, x.1.2.2.1, ()), x.2.1, ())))) := by kernel_rfl
theorem rcsum_loop : LoopOK (mkC tys rcsumG [(2, csumI.spec), (0, rcsumO.spec)]) rcsumO.spec (loopB 0 (bodyOf (fnOf Tryd.prog 22))) :=
  loopD_ok1 (fun _ => rfl) (fun x => congrFun rcsum_outer x) (fun (x : (List (List Int) × Int × Int × Unit) × (List Int × Unit)) => (x.1.2.1 - x.1.2.2.1).toNat) fun (x : (List (List Int) × Int × Int × Unit) × (List Int × Unit)) hp => by
    obtain ⟨⟨l, n, i, ⟨⟩⟩, o, ⟨⟩⟩ := x
    obtain ⟨h1, h2, h3, h4, h5⟩ := hp
    simp only at h1 h2 h3 h4 h5
    simp only [Tree.holds]
    refine ⟨fun h => ?_, fun h => ?_⟩
    · have h' : i < n := by simpa using h
      have e : IntKind.i64.wrap (i + 1) = i + 1 := i64_id (by omega) (by omega)
      refine ⟨⟨h1, by omega⟩, ⟨by omega, by omega, h5⟩, _, rfl, ⟨?_, ?_, h3, h4, (by show (restF 8 (fun j v => satF v ((l.getD i.toNat (List.replicate 8 0)).getD j 0)) 0 o).length = 8; exact restF_len)⟩, ?_, ?_⟩
      · show 0 ≤ IntKind.i64.wrap (i + 1); omega
      · show IntKind.i64.wrap (i + 1) ≤ n; omega
      · show (n - IntKind.i64.wrap (i + 1)).toNat < (n - i).toNat; omega
      · show (Ex.exit 0, ((l, n, n, ()), ((l.drop (IntKind.i64.wrap (i + 1)).toNat).foldl plusF (plusF o (l.getD i.toNat (List.replicate 8 0))), ()))) = (Ex.exit 0, ((l, n, n, ()), ((l.drop i.toNat).foldl plusF o, ())))
        rw [e, drop_row (l := l) (List.replicate 8 0) h1 (by omega)]
        rfl
    · have h' : ¬ i < n := by simpa using h
      have hi : i = n := by omega
      subst hi
      refine ⟨_, rfl, ?_⟩
      show (Ex.exit 0, ((l, i, i, ()), ((l.drop i.toNat).foldl plusF o, ()))) = _
      rw [List.drop_eq_nil_of_le (by omega)]
      rfl
theorem rcsum_round2 : (fun x : (List Int × Int × Unit) × (List Int × Unit) => roundOf (mkC tys rcsumG [(2, csumI.spec), (0, rcsumO.spec)]) csumI (loopB 2 (bodyOf (fnOf Tryd.prog 22))) x) =
  (fun x =>
    Tree.br (decide (x.1.2.1 < (8 : Int)))
      (Tree.need ((0 : Int) ≤ x.1.2.1 ∧ x.1.2.1 < (8 : Int))
        (Tree.leaf (Ex.normal, some ((x.1.1, IntKind.wrap IntKind.i64 (x.1.2.1 + (1 : Int)), ()), caddF x.2.1 x.1.2.1 (List.getD x.1.1 (Int.toNat x.1.2.1) (0 : Int)), ()))))
      (Tree.leaf (Ex.exit (2 : Nat), some ((x.1.1, x.1.2.1, ()), x.2.1, ())))) := by kernel_rfl
theorem rcsum_inner2 : LoopOK (mkC tys rcsumG [(2, csumI.spec), (0, rcsumO.spec)]) csumI.spec (loopB 2 (bodyOf (fnOf Tryd.prog 22))) :=
  loopD_ok1 (fun _ => rfl) (fun x => congrFun rcsum_round2 x) (fun (x : (List Int × Int × Unit) × (List Int × Unit)) => (8 - x.1.2.1).toNat) fun (x : (List Int × Int × Unit) × (List Int × Unit)) hp => by
    obtain ⟨⟨l, i, ⟨⟩⟩, o, ⟨⟩⟩ := x
    obtain ⟨h1, h2, h3⟩ := hp
    simp only at h1 h2 h3
    simp only [Tree.holds]
    refine ⟨fun h => ?_, fun h => ?_⟩
    · have h' : i < 8 := by simpa using h
      have e : IntKind.i64.wrap (i + 1) = i + 1 := i64_id (by omega) (by omega)
      refine ⟨⟨h1, h'⟩, _, rfl, ⟨?_, ?_, ?_⟩, ?_, ?_⟩
      · show 0 ≤ IntKind.i64.wrap (i + 1); omega
      · show IntKind.i64.wrap (i + 1) ≤ 8; omega
      · show (caddF o i (l.getD i.toNat 0)).length = 8
        rw [cadd_at h1 h', List.length_set, h3]
      · show (8 - IntKind.i64.wrap (i + 1)).toNat < (8 - i).toNat; omega
      · show (Ex.exit 2, ((l, (8 : Int), ()), (restF 8 (fun j v => satF v (l.getD j 0)) (IntKind.i64.wrap (i + 1)).toNat (caddF o i (l.getD i.toNat 0)), ()))) = (Ex.exit 2, ((l, (8 : Int), ()), (restF 8 (fun j v => satF v (l.getD j 0)) i.toNat o, ())))
        have hs := restF_step (f := fun j v => satF v (l.getD j 0)) (i := i.toNat) h3 (by omega)
        rw [e, cadd_at h1 h', show (i + 1).toNat = i.toNat + 1 by omega, hs]
    · have h' : ¬ i < 8 := by simpa using h
      have hi : i = 8 := by omega
      subst hi
      refine ⟨_, rfl, ?_⟩
      show (Ex.exit 2, ((l, (8 : Int), ()), (restF 8 (fun j v => satF v (l.getD j 0)) 8 o, ()))) = _
      rw [restF_all h3 (by omega)]
      rfl
def rcsumC : Ctr := { args := [.sl g8], res := [g8], pre := none, fn := fun (x : List (List Int)) => csumF x }
theorem rcsum_tree : (fun x : List (List Int) => evFn (mkC tys rcsumG [(2, csumI.spec), (0, rcsumO.spec)]) (fnOf Tryd.prog 22) (resL rcsumC.args x) rcsumC.res) =
  (fun x =>
    Tree.need
      ((0 : Int) ≤ (0 : Int) ∧
        (0 : Int) ≤ (↑(List.length x) : Int) ∧ (↑(List.length x) : Int) = (↑(List.length x) : Int) ∧ (↑(List.length x) : Int) ≤ (4611686018427387904 : Int) ∧ (8 : Nat) = (8 : Nat))
      (Tree.leaf (List.foldl plusF (List.replicate (8 : Nat) (0 : Int)) (List.drop (Int.toNat (0 : Int)) x)))) := by kernel_rfl
theorem rcsum_ok : CtrOK Tryd.prog 22 rcsumC :=
  fun_ok (G := rcsumG) (Λ := [(2, csumI.spec), (0, rcsumO.spec)]) tysOK rcsumG_ok mixed (by kernel_rfl) (by kernel_rfl) (by kernel_rfl) (by kernel_rfl) (lp_cons rcsum_inner2 (lp_cons rcsum_loop lp_nil)) fun (x : List (List Int)) hw _ => by
    rw [congrFun rcsum_tree x]
    have hl : x.length ≤ 140737488355328 := hw.1
    simp only [Tree.holds]
    exact ⟨⟨by omega, by omega, trivial, by omega, trivial⟩, rfl⟩
def cdiffD : LoopD where
  prom := []
  ts := [(2, .ptr 2 g8), (5, .ptr 5 g8), (12, .val g8), (13, .val (.int .i64))]
  bs := [(2, .var g8), (5, .var g8)]
  pre := fun (x : (List Int × Int × Unit) × (List Int × List Int × Unit)) => 0 ≤ x.1.2.1 ∧ x.1.2.1 ≤ 8 ∧ x.2.1.length = 8 ∧ x.2.2.1.length = 8 ∧ x.1.1.length = 8 ∧ ∀ j, IntKind.i64.has (x.1.1.getD j 0)
  out := fun (x : (List Int × Int × Unit) × (List Int × List Int × Unit)) => .leaf (.exit 0, ((x.1.1, 8, ()), (x.2.1, restF 8 (fun j v => bif difB x.2.1 x.1.1 j then x.1.1.getD j 0 - x.2.1.getD j 0 else v) x.1.2.1.toNat x.2.2.1, ())))
theorem cdiff_round : (fun x : (List Int × Int × Unit) × (List Int × List Int × Unit) => roundOf (mkC tys [] [(0, cdiffD.spec)]) cdiffD (loopB 0 (bodyOf (fnOf Tryd.prog 23))) x) =
  (fun x =>
    Tree.br (decide (x.1.2.1 < (8 : Int)))
      (Tree.need ((0 : Int) ≤ x.1.2.1 ∧ x.1.2.1 < (8 : Int))
        (Tree.need ((0 : Int) ≤ x.1.2.1 ∧ x.1.2.1 < (8 : Int))
          (Tree.need ((decide (List.getD x.2.1 (Int.toNat x.1.2.1) (0 : Int) ≥ (0 : Int)) == true && true) = true → (0 : Int) ≤ x.1.2.1 ∧ x.1.2.1 < (8 : Int))
            (Tree.need
              ((bif decide (List.getD x.2.1 (Int.toNat x.1.2.1) (0 : Int) ≥ (0 : Int)) then decide (List.getD x.1.1 (Int.toNat x.1.2.1) (0 : Int) > List.getD x.2.1 (Int.toNat x.1.2.1) (0 : Int))
                  else false) =
                  true →
                (0 : Int) ≤ x.1.2.1 ∧ x.1.2.1 < (8 : Int))
              (Tree.need
                ((bif decide (List.getD x.2.1 (Int.toNat x.1.2.1) (0 : Int) ≥ (0 : Int)) then decide (List.getD x.1.1 (Int.toNat x.1.2.1) (0 : Int) > List.getD x.2.1 (Int.toNat x.1.2.1) (0 : Int))
                    else false) =
                    true →
                  (0 : Int) ≤ x.1.2.1 ∧ x.1.2.1 < (8 : Int))
                (Tree.leaf
                  (Ex.normal,
                    some
                      ((x.1.1, IntKind.wrap IntKind.i64 (x.1.2.1 + (1 : Int)), ()), x.2.1,
                        bif
                            bif decide (List.getD x.2.1 (Int.toNat x.1.2.1) (0 : Int) ≥ (0 : Int)) then
                              decide (List.getD x.1.1 (Int.toNat x.1.2.1) (0 : Int) > List.getD x.2.1 (Int.toNat x.1.2.1) (0 : Int))
                            else false then
                          List.set x.2.2.1 (Int.toNat x.1.2.1) (IntKind.wrap IntKind.i64 (List.getD x.1.1 (Int.toNat x.1.2.1) (0 : Int) - List.getD x.2.1 (Int.toNat x.1.2.1) (0 : Int)))
                        else x.2.2.1,
                        ()))))))))
      (Tree.leaf (Ex.exit (0 : Nat), some ((x.1.1, x.1.2.1, ()), x.2.1, x.2.2.1, ())))) := by kernel_rfl
theorem cdiff_loop : LoopOK (mkC tys [] [(0, cdiffD.spec)]) cdiffD.spec (loopB 0 (bodyOf (fnOf Tryd.prog 23))) :=
  loopD_ok1 (fun _ => rfl) (fun x => congrFun cdiff_round x) (fun (x : (List Int × Int × Unit) × (List Int × List Int × Unit)) => (8 - x.1.2.1).toNat) fun (x : (List Int × Int × Unit) × (List Int × List Int × Unit)) hp => by
    obtain ⟨⟨now, i, ⟨⟩⟩, old, o, ⟨⟩⟩ := x
    obtain ⟨h1, h2, h3, h4, h5, h6⟩ := hp
    simp only at h1 h2 h3 h4 h5 h6
    simp only [Tree.holds]
    refine ⟨fun h => ?_, fun h => ?_⟩
    · have h' : i < 8 := by simpa using h
      have e : IntKind.i64.wrap (i + 1) = i + 1 := i64_id (by omega) (by omega)
      have hd := diff_at (o := o) (old := old) (now := now) (i := i.toNat) h4 (by omega) (h6 _)
      have hs := restF_step (f := fun j v => bif difB old now j then now.getD j 0 - old.getD j 0 else v) (i := i.toNat) h4 (by omega)
      have hi : 0 ≤ i ∧ i < 8 := ⟨h1, h'⟩
      refine ⟨hi, hi, fun _ => hi, fun _ => hi, fun _ => hi, _, rfl, ⟨?_, ?_, h3, ?_, h5, h6⟩, ?_, ?_⟩
      · show 0 ≤ IntKind.i64.wrap (i + 1); omega
      · show IntKind.i64.wrap (i + 1) ≤ 8; omega
      · show (bif difB old now i.toNat then o.set i.toNat (IntKind.wrap IntKind.i64 (now.getD i.toNat 0 - old.getD i.toNat 0)) else o).length = 8
        rw [hd, List.length_set, h4]
      · show (8 - IntKind.i64.wrap (i + 1)).toNat < (8 - i).toNat; omega
      · show (Ex.exit 0, ((now, (8 : Int), ()), (old, restF 8 (fun j v => bif difB old now j then now.getD j 0 - old.getD j 0 else v) (IntKind.i64.wrap (i + 1)).toNat (bif difB old now i.toNat then o.set i.toNat (IntKind.wrap IntKind.i64 (now.getD i.toNat 0 - old.getD i.toNat 0)) else o), ()))) = (Ex.exit 0, ((now, (8 : Int), ()), (old, restF 8 (fun j v => bif difB old now j then now.getD j 0 - old.getD j 0 else v) i.toNat o, ())))
        rw [e, hd, show (i + 1).toNat = i.toNat + 1 by omega, hs]
    · have h' : ¬ i < 8 := by simpa using h
      have hi : i = 8 := by omega
      subst hi
      refine ⟨_, rfl, ?_⟩
      show (Ex.exit 0, ((now, (8 : Int), ()), (old, restF 8 (fun j v => bif difB old now j then now.getD j 0 - old.getD j 0 else v) 8 o, ()))) = _
      rw [restF_all h4 (by omega)]
      rfl
def cdiffC : Ctr := { args := [g8, g8], res := [g8], pre := none, fn := fun (x : List Int × List Int) => cdiffF x.1 x.2 }
theorem cdiff_tree : (fun x : List Int × List Int => evFn (mkC tys [] [(0, cdiffD.spec)]) (fnOf Tryd.prog 23) (resL cdiffC.args x) cdiffC.res) =
  (fun x =>
    Tree.br (geq (GTy.arr (8 : Nat) (GTy.int IntKind.i64)) x.1 x.2) (Tree.leaf (List.replicate (8 : Nat) (0 : Int)))
      (Tree.need
        ((0 : Int) ≤ (0 : Int) ∧
          (0 : Int) ≤ (8 : Int) ∧
            List.length x.1 = (8 : Nat) ∧
              (8 : Nat) = (8 : Nat) ∧ List.length x.2 = (8 : Nat) ∧ ∀ (j : Nat), (-9223372036854775808 : Int) ≤ List.getD x.2 j (0 : Int) ∧ List.getD x.2 j (0 : Int) ≤ (9223372036854775807 : Int))
        (Tree.leaf (restF (8 : Nat) (fun j v => bif difB x.1 x.2 j then List.getD x.2 j (0 : Int) - List.getD x.1 j (0 : Int) else v) (Int.toNat (0 : Int)) (List.replicate (8 : Nat) (0 : Int)))))) := by kernel_rfl
def rcdiffD : LoopD where
  prom := []
  ts := [(2, .ptr 2 g8), (3, .ptr 3 g8), (5, .ptr 5 g8), (7, .val (.int .i64))]
  bs := [(2, .var g8), (3, .var g8), (5, .var g8)]
  pre := fun (x : (Int × Unit) × (List Int × List Int × List Int × Unit)) => 0 ≤ x.1.1 ∧ x.1.1 ≤ 8 ∧ x.2.1.length = 8 ∧ x.2.2.1.length = 8 ∧ x.2.2.2.1.length = 8 ∧ ∀ j, IntKind.i64.has (x.2.2.1.getD j 0)
  out := fun (x : (Int × Unit) × (List Int × List Int × List Int × Unit)) => .leaf (.exit 0, ((8, ()), (x.2.1, x.2.2.1, restF 8 (fun j v => bif difB x.2.1 x.2.2.1 j then x.2.2.1.getD j 0 - x.2.1.getD j 0 else v) x.1.1.toNat x.2.2.2.1, ())))
theorem rcdiff_round : (fun x : (Int × Unit) × (List Int × List Int × List Int × Unit) => roundOf (mkC tys [] [(0, rcdiffD.spec)]) rcdiffD (loopB 0 (bodyOf (fnOf Tryd.prog 24))) x) =
  (fun x =>
    Tree.br (decide (x.1.1 < (8 : Int)))
      (Tree.need ((0 : Int) ≤ x.1.1 ∧ x.1.1 < (8 : Int))
        (Tree.need ((decide (List.getD x.2.1 (Int.toNat x.1.1) (0 : Int) ≥ (0 : Int)) == true && true) = true → (0 : Int) ≤ x.1.1 ∧ x.1.1 < (8 : Int))
          (Tree.need ((decide (List.getD x.2.1 (Int.toNat x.1.1) (0 : Int) ≥ (0 : Int)) == true && true) = true → (0 : Int) ≤ x.1.1 ∧ x.1.1 < (8 : Int))
            (Tree.need
              ((bif decide (List.getD x.2.1 (Int.toNat x.1.1) (0 : Int) ≥ (0 : Int)) then decide (List.getD x.2.2.1 (Int.toNat x.1.1) (0 : Int) > List.getD x.2.1 (Int.toNat x.1.1) (0 : Int))
                  else false) =
                  true →
                (0 : Int) ≤ x.1.1 ∧ x.1.1 < (8 : Int))
              (Tree.need
                ((bif decide (List.getD x.2.1 (Int.toNat x.1.1) (0 : Int) ≥ (0 : Int)) then decide (List.getD x.2.2.1 (Int.toNat x.1.1) (0 : Int) > List.getD x.2.1 (Int.toNat x.1.1) (0 : Int))
                    else false) =
                    true →
                  (0 : Int) ≤ x.1.1 ∧ x.1.1 < (8 : Int))
                (Tree.need
                  ((bif decide (List.getD x.2.1 (Int.toNat x.1.1) (0 : Int) ≥ (0 : Int)) then decide (List.getD x.2.2.1 (Int.toNat x.1.1) (0 : Int) > List.getD x.2.1 (Int.toNat x.1.1) (0 : Int))
                      else false) =
                      true →
                    (0 : Int) ≤ x.1.1 ∧ x.1.1 < (8 : Int))
                  (Tree.leaf
                    (Ex.normal,
                      some
                        ((IntKind.wrap IntKind.i64 (x.1.1 + (1 : Int)), ()), x.2.1, x.2.2.1,
                          bif
                              bif decide (List.getD x.2.1 (Int.toNat x.1.1) (0 : Int) ≥ (0 : Int)) then
                                decide (List.getD x.2.2.1 (Int.toNat x.1.1) (0 : Int) > List.getD x.2.1 (Int.toNat x.1.1) (0 : Int))
                              else false then
                            List.set x.2.2.2.1 (Int.toNat x.1.1) (IntKind.wrap IntKind.i64 (List.getD x.2.2.1 (Int.toNat x.1.1) (0 : Int) - List.getD x.2.1 (Int.toNat x.1.1) (0 : Int)))
                          else x.2.2.2.1,
                          ())))))))))
      (Tree.leaf (Ex.exit (0 : Nat), some ((x.1.1, ()), x.2.1, x.2.2.1, x.2.2.2.1, ())))) := by kernel_rfl
theorem rcdiff_loop : LoopOK (mkC tys [] [(0, rcdiffD.spec)]) rcdiffD.spec (loopB 0 (bodyOf (fnOf Tryd.prog 24))) :=
  loopD_ok1 (fun _ => rfl) (fun x => congrFun rcdiff_round x) (fun (x : (Int × Unit) × (List Int × List Int × List Int × Unit)) => (8 - x.1.1).toNat) fun (x : (Int × Unit) × (List Int × List Int × List Int × Unit)) hp => by
    obtain ⟨⟨i, ⟨⟩⟩, old, now, o, ⟨⟩⟩ := x
    obtain ⟨h1, h2, h3, h5, h4, h6⟩ := hp
    simp only at h1 h2 h3 h4 h5 h6
    simp only [Tree.holds]
    refine ⟨fun h => ?_, fun h => ?_⟩
    · have h' : i < 8 := by simpa using h
      have e : IntKind.i64.wrap (i + 1) = i + 1 := i64_id (by omega) (by omega)
      have hd := diff_at (o := o) (old := old) (now := now) (i := i.toNat) h4 (by omega) (h6 _)
      have hs := restF_step (f := fun j v => bif difB old now j then now.getD j 0 - old.getD j 0 else v) (i := i.toNat) h4 (by omega)
      have hi : 0 ≤ i ∧ i < 8 := ⟨h1, h'⟩
      refine ⟨hi, fun _ => hi, fun _ => hi, fun _ => hi, fun _ => hi, fun _ => hi, _, rfl, ⟨?_, ?_, h3, h5, ?_, h6⟩, ?_, ?_⟩
      · show 0 ≤ IntKind.i64.wrap (i + 1); omega
      · show IntKind.i64.wrap (i + 1) ≤ 8; omega
      · show (bif difB old now i.toNat then o.set i.toNat (IntKind.wrap IntKind.i64 (now.getD i.toNat 0 - old.getD i.toNat 0)) else o).length = 8
        rw [hd, List.length_set, h4]
      · show (8 - IntKind.i64.wrap (i + 1)).toNat < (8 - i).toNat; omega
      · show (Ex.exit 0, (((8 : Int), ()), (old, now, restF 8 (fun j v => bif difB old now j then now.getD j 0 - old.getD j 0 else v) (IntKind.i64.wrap (i + 1)).toNat (bif difB old now i.toNat then o.set i.toNat (IntKind.wrap IntKind.i64 (now.getD i.toNat 0 - old.getD i.toNat 0)) else o), ()))) = (Ex.exit 0, (((8 : Int), ()), (old, now, restF 8 (fun j v => bif difB old now j then now.getD j 0 - old.getD j 0 else v) i.toNat o, ())))
        rw [e, hd, show (i + 1).toNat = i.toNat + 1 by omega, hs]
    · have h' : ¬ i < 8 := by simpa using h
      have hi : i = 8 := by omega
      subst hi
      refine ⟨_, rfl, ?_⟩
      show (Ex.exit 0, (((8 : Int), ()), (old, now, restF 8 (fun j v => bif difB old now j then now.getD j 0 - old.getD j 0 else v) 8 o, ()))) = _
      rw [restF_all h4 (by omega)]
      rfl
theorem rcdiff_tree : (fun x : List Int × List Int => evFn (mkC tys [] [(0, rcdiffD.spec)]) (fnOf Tryd.prog 24) (resL cdiffC.args x) cdiffC.res) =
  (fun x =>
    Tree.need
      ((0 : Int) ≤ (0 : Int) ∧
        (0 : Int) ≤ (8 : Int) ∧
          List.length x.1 = (8 : Nat) ∧
            List.length x.2 = (8 : Nat) ∧ (8 : Nat) = (8 : Nat) ∧ ∀ (j : Nat), (-9223372036854775808 : Int) ≤ List.getD x.2 j (0 : Int) ∧ List.getD x.2 j (0 : Int) ≤ (9223372036854775807 : Int))
      (Tree.leaf (restF (8 : Nat) (fun j v => bif difB x.1 x.2 j then List.getD x.2 j (0 : Int) - List.getD x.1 j (0 : Int) else v) (Int.toNat (0 : Int)) (List.replicate (8 : Nat) (0 : Int))))) := by kernel_rfl
end Go.Ev.D
/- Counts taken from one another, and told. -/
set_option linter.unusedVariables false
set_option linter.unusedSimpArgs false
namespace Go.Ev.D
open Go.Proofs
theorem arr_has {l : List Int} (h : wt g8 l) (j : Nat) : IntKind.i64.has (l.getD j 0) := by
  by_cases hlt : j < l.length
  · exact h.2 _ (by simp [List.getD, hlt])
  · simp [List.getD, Nat.not_lt.1 hlt, has_i64]
theorem arr_has' {l : List Int} (h : wt g8 l) (j : Nat) : (-9223372036854775808 : Int) ≤ l.getD j 0 ∧ l.getD j 0 ≤ 9223372036854775807 := (has_i64 _).1 (arr_has h j)
theorem cdiff_ok : CtrOK Tryd.prog 23 cdiffC :=
  fun_ok (G := []) (Λ := [(0, cdiffD.spec)]) tysOK ctrs_nil mixed (by kernel_rfl) (by kernel_rfl) (by kernel_rfl) (by kernel_rfl) (lp_cons cdiff_loop lp_nil) fun (x : List Int × List Int) hw _ => by
    rw [congrFun cdiff_tree x]
    have h1 : x.1.length = 8 := hw.1.1
    have h2 : x.2.length = 8 := hw.2.1
    simp only [Tree.holds]
    refine ⟨fun h => ?_, fun _ => ⟨⟨by omega, by omega, h1, trivial, h2, fun j => arr_has' hw.2 j⟩, rfl⟩⟩
    rw [geqArr (by omega)] at h
    have h3 : x.1 = x.2 := of_decide_eq_true h
    show List.replicate 8 0 = cdiffF x.1 x.2
    refine list_ext (n := 8) rfl restF_len fun j hj => ?_
    unfold cdiffF
    rw [restF_get hj, h3]
    have : difB x.2 x.2 j = false := by unfold difB; cases decide (x.2.getD j 0 ≥ 0) <;> simp
    rw [this]
    rfl
theorem rcdiff_ok : CtrOK Tryd.prog 24 cdiffC :=
  fun_ok (G := []) (Λ := [(0, rcdiffD.spec)]) tysOK ctrs_nil mixed (by kernel_rfl) (by kernel_rfl) (by kernel_rfl) (by kernel_rfl) (lp_cons rcdiff_loop lp_nil) fun (x : List Int × List Int) hw _ => by
    rw [congrFun rcdiff_tree x]
    have h1 : x.1.length = 8 := hw.1.1
    have h2 : x.2.length = 8 := hw.2.1
    simp only [Tree.holds]
    exact ⟨⟨by omega, by omega, h1, h2, trivial, fun j => arr_has' hw.2 j⟩, rfl⟩
def digC (k : Nat) : Ctr := { args := [.int .i64], res := [.str], pre := some (fun (x : Int) => x < 10 ^ k), fn := fun (x : Int) => digF x }
theorem dig_tree : (fun x : Nat × Int => evFn (mkC tys [(97, digC x.1)] []) (fnOf Tryd.prog 97) (resL [.int .i64] x.2) [.str]) =
  (fun x =>
    Tree.br (decide (x.2 < (0 : Int))) (Tree.leaf [(45 : UInt8)])
      (Tree.br (decide (x.2 < (10 : Int))) (Tree.leaf (bytesToStr [IntKind.wrap IntKind.u8 (IntKind.wrap IntKind.i64 ((48 : Int) + x.2))]))
        (Tree.need (IntKind.wrap IntKind.i64 (Int.tdiv x.2 (10 : Int)) < (10 : Int) ^ x.1)
          (Tree.need
            (List.length (digF (IntKind.wrap IntKind.i64 (Int.tdiv x.2 (10 : Int)))) +
                List.length (bytesToStr [IntKind.wrap IntKind.u8 (IntKind.wrap IntKind.i64 ((48 : Int) + Int.tmod x.2 (10 : Int)))]) ≤
              (4611686018427387904 : Nat))
            (Tree.leaf (digF (IntKind.wrap IntKind.i64 (Int.tdiv x.2 (10 : Int))) ++ bytesToStr [IntKind.wrap IntKind.u8 (IntKind.wrap IntKind.i64 ((48 : Int) + Int.tmod x.2 (10 : Int)))])))))) := by kernel_rfl
theorem dig0_tree : (fun x : Int => evFn (mkC tys [] []) (fnOf Tryd.prog 97) (resL [.int .i64] x) [.str]) =
  (fun x =>
    Tree.br (decide (x < (0 : Int))) (Tree.leaf [(45 : UInt8)])
      (Tree.br (decide (x < (10 : Int))) (Tree.leaf (bytesToStr [IntKind.wrap IntKind.u8 (IntKind.wrap IntKind.i64 ((48 : Int) + x))])) Tree.stuck)) := by kernel_rfl
theorem dig_ok : ∀ k, CtrOK Tryd.prog 97 (digC k)
  | 0 => fun_ok (G := []) (Λ := []) tysOK ctrs_nil mixed (by kernel_rfl) (by kernel_rfl) (by kernel_rfl) (by kernel_rfl) lp_nil fun (x : Int) hw hp => by
    have h : x < 10 ^ 0 := hp _ rfl
    show (evFn (mkC tys [] []) (fnOf Tryd.prog 97) (resL [.int .i64] x) [.str]).holds (fun y => y = digF x)
    rw [congrFun dig0_tree x]
    simp only [Tree.holds]
    refine ⟨fun h1 => ?_, fun h1 => ⟨fun h2 => ?_, fun h2 => ?_⟩⟩
    · unfold digF; rw [h1]; rfl
    · have h1' : ¬ x < 0 := of_decide_eq_false h1
      have h2' : x < 10 := of_decide_eq_true h2
      exact dig_one (by omega) h2'
    · have h2' : ¬ x < 10 := of_decide_eq_false h2
      omega
  | k + 1 => fun_ok (G := [(97, digC k)]) (Λ := []) tysOK (ctrs_cons (dig_ok k) ctrs_nil) mixed (by kernel_rfl) (by kernel_rfl) (by kernel_rfl) (by kernel_rfl) lp_nil fun (x : Int) hw hp => by
    have h : x < 10 ^ (k + 1) := hp _ rfl
    have hx : x ≤ 9223372036854775807 := by
      have : IntKind.i64.has x := hw
      exact ((has_i64 x).1 this).2
    show (evFn (mkC tys [(97, digC (k, x).1)] []) (fnOf Tryd.prog 97) (resL [.int .i64] (k, x).2) [.str]).holds (fun y => y = digF x)
    rw [congrFun dig_tree (k, x)]
    simp only [Tree.holds]
    refine ⟨fun h1 => ?_, fun h1 => ⟨fun h2 => ?_, fun h2 => ⟨?_, ?_, ?_⟩⟩⟩
    · unfold digF; rw [h1]; rfl
    · have h1' : ¬ x < 0 := of_decide_eq_false h1
      have h2' : x < 10 := of_decide_eq_true h2
      exact dig_one (by omega) h2'
    · have h2' : ¬ x < 10 := of_decide_eq_false h2
      rw [Int.tdiv_eq_ediv_of_nonneg (by omega), show IntKind.wrap IntKind.i64 (x / 10) = x / 10 from i64_id (by omega) (by omega)]
      rw [Int.pow_succ] at h
      omega
    · have := digF_len (IntKind.wrap IntKind.i64 (Int.tdiv x (10 : Int)))
      simp [bytesToStr]
      omega
    · have h2' : ¬ x < 10 := of_decide_eq_false h2
      exact dig_more h2' hx
def ctextD : LoopD where
  prom := []
  ts := [(3, .val .str), (4, .ptr 4 (.arr 8 .str)), (11, .val g8), (12, .val (.int .i64))]
  bs := [(4, .var (.arr 8 .str))]
  pre := fun (x : (List UInt8 × List Int × Int × Unit) × (List (List UInt8) × Unit)) => 0 ≤ x.1.2.2.1 ∧ x.1.2.2.1 ≤ 8 ∧ (x.1.1.length : Int) ≤ 100 * x.1.2.2.1 ∧ x.2.1 = wordsL
  out := fun (x : (List UInt8 × List Int × Int × Unit) × (List (List UInt8) × Unit)) => .leaf (.exit 0, ((x.1.1 ++ textK x.1.2.1 (8 - x.1.2.2.1.toNat), x.1.2.1, 8, ()), (x.2.1, ())))
def ctextG : List (Nat × Ctr) := [(95, wordsC), (96, itoaC)]
theorem ctext_round : (fun x : (List UInt8 × List Int × Int × Unit) × (List (List UInt8) × Unit) => roundOf (mkC tys ctextG [(0, ctextD.spec)]) ctextD (loopB 0 (bodyOf (fnOf Tryd.prog 25))) x) =
  (fun x =>
    Tree.br (decide (x.1.2.2.1 < (8 : Int)))
      (Tree.need ((0 : Int) ≤ x.1.2.2.1 ∧ x.1.2.2.1 < (8 : Int))
        (Tree.need (decide (List.getD x.1.2.1 (Int.toNat x.1.2.2.1) (0 : Int) > (0 : Int)) = true → (0 : Int) ≤ x.1.2.2.1 ∧ x.1.2.2.1 < (8 : Int))
          (Tree.need (decide (List.getD x.1.2.1 (Int.toNat x.1.2.2.1) (0 : Int) > (0 : Int)) = true → List.length (List.getD x.2.1 (Int.toNat x.1.2.2.1) []) + (1 : Nat) ≤ (4611686018427387904 : Nat))
            (Tree.need
              (decide (List.getD x.1.2.1 (Int.toNat x.1.2.2.1) (0 : Int) > (0 : Int)) = true →
                List.length (List.getD x.2.1 (Int.toNat x.1.2.2.1) [] ++ [(32 : UInt8)]) + List.length (itoaF (List.getD x.1.2.1 (Int.toNat x.1.2.2.1) (0 : Int))) ≤ (4611686018427387904 : Nat))
              (Tree.need
                (decide (List.getD x.1.2.1 (Int.toNat x.1.2.2.1) (0 : Int) > (0 : Int)) = true →
                  List.length (List.getD x.2.1 (Int.toNat x.1.2.2.1) [] ++ [(32 : UInt8)] ++ itoaF (List.getD x.1.2.1 (Int.toNat x.1.2.2.1) (0 : Int))) + (1 : Nat) ≤ (4611686018427387904 : Nat))
                (Tree.need
                  (decide (List.getD x.1.2.1 (Int.toNat x.1.2.2.1) (0 : Int) > (0 : Int)) = true →
                    List.length x.1.1 + List.length (List.getD x.2.1 (Int.toNat x.1.2.2.1) [] ++ [(32 : UInt8)] ++ itoaF (List.getD x.1.2.1 (Int.toNat x.1.2.2.1) (0 : Int)) ++ [(10 : UInt8)]) ≤
                      (4611686018427387904 : Nat))
                  (Tree.need
                    ((!decide (List.getD x.1.2.1 (Int.toNat x.1.2.2.1) (0 : Int) > (0 : Int))) = true →
                      decide (List.getD x.1.2.1 (Int.toNat x.1.2.2.1) (0 : Int) < (0 : Int)) = true → (0 : Int) ≤ x.1.2.2.1 ∧ x.1.2.2.1 < (8 : Int))
                    (Tree.need
                      ((!decide (List.getD x.1.2.1 (Int.toNat x.1.2.2.1) (0 : Int) > (0 : Int))) = true →
                        decide (List.getD x.1.2.1 (Int.toNat x.1.2.2.1) (0 : Int) < (0 : Int)) = true → List.length (List.getD x.2.1 (Int.toNat x.1.2.2.1) []) + (3 : Nat) ≤ (4611686018427387904 : Nat))
                      (Tree.need
                        ((!decide (List.getD x.1.2.1 (Int.toNat x.1.2.2.1) (0 : Int) > (0 : Int))) = true →
                          decide (List.getD x.1.2.1 (Int.toNat x.1.2.2.1) (0 : Int) < (0 : Int)) = true →
                            List.length x.1.1 + List.length (List.getD x.2.1 (Int.toNat x.1.2.2.1) [] ++ [(32 : UInt8), (45 : UInt8), (10 : UInt8)]) ≤ (4611686018427387904 : Nat))
                        (Tree.leaf
                          (Ex.normal,
                            some
                              ((bif decide (List.getD x.1.2.1 (Int.toNat x.1.2.2.1) (0 : Int) > (0 : Int)) then
                                    x.1.1 ++ (List.getD x.2.1 (Int.toNat x.1.2.2.1) [] ++ [(32 : UInt8)] ++ itoaF (List.getD x.1.2.1 (Int.toNat x.1.2.2.1) (0 : Int)) ++ [(10 : UInt8)])
                                  else
                                    bif decide (List.getD x.1.2.1 (Int.toNat x.1.2.2.1) (0 : Int) < (0 : Int)) then
                                      x.1.1 ++ (List.getD x.2.1 (Int.toNat x.1.2.2.1) [] ++ [(32 : UInt8), (45 : UInt8), (10 : UInt8)])
                                    else x.1.1,
                                  x.1.2.1, IntKind.wrap IntKind.i64 (x.1.2.2.1 + (1 : Int)), ()),
                                x.2.1, ()))))))))))))
      (Tree.leaf (Ex.exit (0 : Nat), some ((x.1.1, x.1.2.1, x.1.2.2.1, ()), x.2.1, ())))) := by kernel_rfl
theorem ctextG_ok : CtrsOK Tryd.prog (fun f => lk f ctextG) := ctrs_cons words_ok (ctrs_cons itoa_ok ctrs_nil)
theorem ctext_loop : LoopOK (mkC tys ctextG [(0, ctextD.spec)]) ctextD.spec (loopB 0 (bodyOf (fnOf Tryd.prog 25))) :=
  loopD_ok1 (fun _ => rfl) (fun x => congrFun ctext_round x) (fun (x : (List UInt8 × List Int × Int × Unit) × (List (List UInt8) × Unit)) => (8 - x.1.2.2.1).toNat) fun (x : (List UInt8 × List Int × Int × Unit) × (List (List UInt8) × Unit)) hp => by
    obtain ⟨⟨out, l, i, ⟨⟩⟩, ws, ⟨⟩⟩ := x
    obtain ⟨h1, h2, h3, h4⟩ := hp
    simp only at h1 h2 h3 h4
    subst h4
    simp only [Tree.holds]
    refine ⟨fun h => ?_, fun h => ?_⟩
    · have h' : i < 8 := by simpa using h
      have e : IntKind.i64.wrap (i + 1) = i + 1 := i64_id (by omega) (by omega)
      have hi : 0 ≤ i ∧ i < 8 := ⟨h1, h'⟩
      have hk : 8 - i.toNat = (7 - i.toNat) + 1 := by omega
      have hwl := words_len i.toNat
      have hpl := pieceF_len i.toNat (l.getD i.toNat 0)
      have hil := itoaF_len (l.getD i.toNat 0)
      have hpc := piece_eq out i.toNat (l.getD i.toNat 0)
      have key : ∀ o2, o2 = out ++ pieceF i.toNat (l.getD i.toNat 0) → (0 ≤ IntKind.i64.wrap (i + 1) ∧ IntKind.i64.wrap (i + 1) ≤ 8 ∧ (o2.length : Int) ≤ 100 * IntKind.i64.wrap (i + 1) ∧ wordsL = wordsL) ∧ (8 - IntKind.i64.wrap (i + 1)).toNat < (8 - i).toNat ∧
          (Ex.exit 0, ((o2 ++ textK l (8 - (IntKind.i64.wrap (i + 1)).toNat), l, (8 : Int), ()), (wordsL, ()))) = (Ex.exit 0, ((out ++ textK l (8 - i.toNat), l, (8 : Int), ()), (wordsL, ()))) := by
        rintro o2 rfl
        rw [e, text_step out l h1 h']
        refine ⟨⟨by omega, by omega, ?_, rfl⟩, by omega, rfl⟩
        rw [List.length_append]; omega
      refine ⟨hi, fun _ => hi, fun _ => by omega, fun _ => ?_, fun _ => ?_, fun _ => ?_, fun _ _ => hi, fun _ _ => by omega, fun _ _ => ?_, _, rfl, ?_⟩
      · simp only [List.length_append, List.length_cons, List.length_nil]; omega
      · simp only [List.length_append, List.length_cons, List.length_nil]; omega
      · simp only [List.length_append, List.length_cons, List.length_nil]; omega
      · simp only [List.length_append, List.length_cons, List.length_nil]; omega
      · exact key _ hpc
    · have h' : ¬ i < 8 := by simpa using h
      have hi : i = 8 := by omega
      subst hi
      refine ⟨_, rfl, ?_⟩
      show (Ex.exit 0, ((out ++ textK l 0, l, (8 : Int), ()), (wordsL, ()))) = _
      rw [show textK l 0 = [] from rfl, List.append_nil]
      rfl
def ctextC : Ctr := { args := [g8], res := [.str], pre := none, fn := fun (x : List Int) => ctextF x }
theorem ctext_tree : (fun x : List Int => evFn (mkC tys ctextG [(0, ctextD.spec)]) (fnOf Tryd.prog 25) (resL ctextC.args x) ctextC.res) =
  (fun x =>
    Tree.br (geq (GTy.arr (8 : Nat) (GTy.int IntKind.i64)) x (List.replicate (8 : Nat) (0 : Int))) (Tree.leaf [])
      (Tree.need ((0 : Int) ≤ (0 : Int) ∧ (0 : Int) ≤ (8 : Int) ∧ (↑(0 : Nat) : Int) ≤ (100 : Int) * (0 : Int) ∧ wordsL = wordsL) (Tree.leaf ([] ++ textK x ((8 : Nat) - Int.toNat (0 : Int)))))) := by kernel_rfl
theorem ctext_ok : CtrOK Tryd.prog 25 ctextC :=
  fun_ok (G := ctextG) (Λ := [(0, ctextD.spec)]) tysOK ctextG_ok mixed (by kernel_rfl) (by kernel_rfl) (by kernel_rfl) (by kernel_rfl) (lp_cons ctext_loop lp_nil) fun (x : List Int) hw _ => by
    rw [congrFun ctext_tree x]
    have h1 : x.length = 8 := hw.1
    simp only [Tree.holds]
    refine ⟨fun h => ?_, fun _ => ⟨⟨by omega, by omega, by omega, trivial⟩, rfl⟩⟩
    rw [geqArr h1] at h
    have h3 : x = List.replicate 8 0 := of_decide_eq_true h
    rw [h3]
    rfl
def rctextD : LoopD where
  prom := []
  ts := [(3, .ptr 3 (.arr 8 .str)), (4, .val .str), (8, .val g8), (9, .val (.int .i64))]
  bs := [(3, .var (.arr 8 .str))]
  pre := fun (x : (List UInt8 × List Int × Int × Unit) × (List (List UInt8) × Unit)) => 0 ≤ x.1.2.2.1 ∧ x.1.2.2.1 ≤ 8 ∧ (x.1.1.length : Int) ≤ 100 * x.1.2.2.1 ∧ x.2.1 = wordsL ∧ ∀ j, x.1.2.1.getD j 0 ≤ 9223372036854775807
  out := fun (x : (List UInt8 × List Int × Int × Unit) × (List (List UInt8) × Unit)) => .leaf (.exit 0, ((x.1.1 ++ textK x.1.2.1 (8 - x.1.2.2.1.toNat), x.1.2.1, 8, ()), (x.2.1, ())))
def rctextG : List (Nat × Ctr) := [(97, digC 19)]
theorem rctext_round : (fun x : (List UInt8 × List Int × Int × Unit) × (List (List UInt8) × Unit) => roundOf (mkC tys rctextG [(0, rctextD.spec)]) rctextD (loopB 0 (bodyOf (fnOf Tryd.prog 26))) x) =
  (fun x =>
    Tree.br (decide (x.1.2.2.1 < (8 : Int)))
      (Tree.need ((0 : Int) ≤ x.1.2.2.1 ∧ x.1.2.2.1 < (8 : Int))
        (Tree.need ((List.getD x.1.2.1 (Int.toNat x.1.2.2.1) (0 : Int) != (0 : Int)) = true → (0 : Int) ≤ x.1.2.2.1 ∧ x.1.2.2.1 < (8 : Int))
          (Tree.need ((List.getD x.1.2.1 (Int.toNat x.1.2.2.1) (0 : Int) != (0 : Int)) = true → List.length (List.getD x.2.1 (Int.toNat x.1.2.2.1) []) + (1 : Nat) ≤ (4611686018427387904 : Nat))
            (Tree.need ((List.getD x.1.2.1 (Int.toNat x.1.2.2.1) (0 : Int) != (0 : Int)) = true → List.getD x.1.2.1 (Int.toNat x.1.2.2.1) (0 : Int) < (10000000000000000000 : Int))
              (Tree.need
                ((List.getD x.1.2.1 (Int.toNat x.1.2.2.1) (0 : Int) != (0 : Int)) = true →
                  List.length (List.getD x.2.1 (Int.toNat x.1.2.2.1) [] ++ [(32 : UInt8)]) + List.length (digF (List.getD x.1.2.1 (Int.toNat x.1.2.2.1) (0 : Int))) ≤ (4611686018427387904 : Nat))
                (Tree.need
                  ((List.getD x.1.2.1 (Int.toNat x.1.2.2.1) (0 : Int) != (0 : Int)) = true →
                    List.length (List.getD x.2.1 (Int.toNat x.1.2.2.1) [] ++ [(32 : UInt8)] ++ digF (List.getD x.1.2.1 (Int.toNat x.1.2.2.1) (0 : Int))) + (1 : Nat) ≤ (4611686018427387904 : Nat))
                  (Tree.need
                    ((List.getD x.1.2.1 (Int.toNat x.1.2.2.1) (0 : Int) != (0 : Int)) = true →
                      List.length x.1.1 + List.length (List.getD x.2.1 (Int.toNat x.1.2.2.1) [] ++ [(32 : UInt8)] ++ digF (List.getD x.1.2.1 (Int.toNat x.1.2.2.1) (0 : Int)) ++ [(10 : UInt8)]) ≤
                        (4611686018427387904 : Nat))
                    (Tree.leaf
                      (Ex.normal,
                        some
                          ((bif List.getD x.1.2.1 (Int.toNat x.1.2.2.1) (0 : Int) != (0 : Int) then
                                x.1.1 ++ (List.getD x.2.1 (Int.toNat x.1.2.2.1) [] ++ [(32 : UInt8)] ++ digF (List.getD x.1.2.1 (Int.toNat x.1.2.2.1) (0 : Int)) ++ [(10 : UInt8)])
                              else x.1.1,
                              x.1.2.1, IntKind.wrap IntKind.i64 (x.1.2.2.1 + (1 : Int)), ()),
                            x.2.1, ()))))))))))
      (Tree.leaf (Ex.exit (0 : Nat), some ((x.1.1, x.1.2.1, x.1.2.2.1, ()), x.2.1, ())))) := by kernel_rfl
theorem rctextG_ok : CtrsOK Tryd.prog (fun f => lk f rctextG) := ctrs_cons (dig_ok 19) ctrs_nil
theorem rctext_loop : LoopOK (mkC tys rctextG [(0, rctextD.spec)]) rctextD.spec (loopB 0 (bodyOf (fnOf Tryd.prog 26))) :=
  loopD_ok1 (fun _ => rfl) (fun x => congrFun rctext_round x) (fun (x : (List UInt8 × List Int × Int × Unit) × (List (List UInt8) × Unit)) => (8 - x.1.2.2.1).toNat) fun (x : (List UInt8 × List Int × Int × Unit) × (List (List UInt8) × Unit)) hp => by
    obtain ⟨⟨out, l, i, ⟨⟩⟩, ws, ⟨⟩⟩ := x
    obtain ⟨h1, h2, h3, h4, h5⟩ := hp
    simp only at h1 h2 h3 h4 h5
    subst h4
    simp only [Tree.holds]
    refine ⟨fun h => ?_, fun h => ?_⟩
    · have h' : i < 8 := by simpa using h
      have e : IntKind.i64.wrap (i + 1) = i + 1 := i64_id (by omega) (by omega)
      have hi : 0 ≤ i ∧ i < 8 := ⟨h1, h'⟩
      have hwl := words_len i.toNat
      have hpl := pieceF_len i.toNat (l.getD i.toNat 0)
      have hil := digF_len (l.getD i.toNat 0)
      have hle := h5 i.toNat
      have hpc := rpiece_eq out i.toNat (l.getD i.toNat 0)
      have key : ∀ o2, o2 = out ++ pieceF i.toNat (l.getD i.toNat 0) → (0 ≤ IntKind.i64.wrap (i + 1) ∧ IntKind.i64.wrap (i + 1) ≤ 8 ∧ (o2.length : Int) ≤ 100 * IntKind.i64.wrap (i + 1) ∧ wordsL = wordsL ∧ ∀ j, l.getD j 0 ≤ 9223372036854775807) ∧ (8 - IntKind.i64.wrap (i + 1)).toNat < (8 - i).toNat ∧
          (Ex.exit 0, ((o2 ++ textK l (8 - (IntKind.i64.wrap (i + 1)).toNat), l, (8 : Int), ()), (wordsL, ()))) = (Ex.exit 0, ((out ++ textK l (8 - i.toNat), l, (8 : Int), ()), (wordsL, ()))) := by
        rintro o2 rfl
        rw [e, text_step out l h1 h']
        refine ⟨⟨by omega, by omega, ?_, rfl, h5⟩, by omega, rfl⟩
        rw [List.length_append]; omega
      refine ⟨hi, fun _ => hi, fun _ => by omega, fun _ => by omega, fun _ => ?_, fun _ => ?_, fun _ => ?_, _, rfl, ?_⟩
      · simp only [List.length_append, List.length_cons, List.length_nil]; omega
      · simp only [List.length_append, List.length_cons, List.length_nil]; omega
      · simp only [List.length_append, List.length_cons, List.length_nil]; omega
      · exact key _ hpc
    · have h' : ¬ i < 8 := by simpa using h
      have hi : i = 8 := by omega
      subst hi
      refine ⟨_, rfl, ?_⟩
      show (Ex.exit 0, ((out ++ textK l 0, l, (8 : Int), ()), (wordsL, ()))) = _
      rw [show textK l 0 = [] from rfl, List.append_nil]
      rfl
def rctextC : Ctr := { args := [g8], res := [.str], pre := none, fn := fun (x : List Int) => ctextF x }
theorem rctext_tree : (fun x : List Int => evFn (mkC tys rctextG [(0, rctextD.spec)]) (fnOf Tryd.prog 26) (resL rctextC.args x) rctextC.res) =
  (fun x =>
    Tree.need
      ((0 : Int) ≤ (0 : Int) ∧
        (0 : Int) ≤ (8 : Int) ∧
          (↑(0 : Nat) : Int) ≤ (100 : Int) * (0 : Int) ∧
            [[(102 : UInt8), (114 : UInt8), (97 : UInt8), (109 : UInt8), (101 : UInt8), (115 : UInt8)], [(98 : UInt8), (97 : UInt8), (100 : UInt8)], [(111 : UInt8), (108 : UInt8), (100 : UInt8)],
                  [(104 : UInt8), (101 : UInt8), (114 : UInt8), (101 : UInt8)], [(111 : UInt8), (110 : UInt8)], [(116 : UInt8), (116 : UInt8), (108 : UInt8)],
                  [(110 : UInt8), (111 : UInt8), (110 : UInt8), (101 : UInt8)], [(114 : UInt8), (101 : UInt8), (115 : UInt8), (101 : UInt8), (116 : UInt8)]] =
                [[(102 : UInt8), (114 : UInt8), (97 : UInt8), (109 : UInt8), (101 : UInt8), (115 : UInt8)], [(98 : UInt8), (97 : UInt8), (100 : UInt8)], [(111 : UInt8), (108 : UInt8), (100 : UInt8)],
                  [(104 : UInt8), (101 : UInt8), (114 : UInt8), (101 : UInt8)], [(111 : UInt8), (110 : UInt8)], [(116 : UInt8), (116 : UInt8), (108 : UInt8)],
                  [(110 : UInt8), (111 : UInt8), (110 : UInt8), (101 : UInt8)], [(114 : UInt8), (101 : UInt8), (115 : UInt8), (101 : UInt8), (116 : UInt8)]] ∧
              ∀ (j : Nat), List.getD x j (0 : Int) ≤ (9223372036854775807 : Int))
      (Tree.leaf ([] ++ textK x ((8 : Nat) - Int.toNat (0 : Int))))) := by kernel_rfl
theorem rctext_ok : CtrOK Tryd.prog 26 rctextC :=
  fun_ok (G := rctextG) (Λ := [(0, rctextD.spec)]) tysOK rctextG_ok mixed (by kernel_rfl) (by kernel_rfl) (by kernel_rfl) (by kernel_rfl) (lp_cons rctext_loop lp_nil) fun (x : List Int) hw _ => by
    rw [congrFun rctext_tree x]
    simp only [Tree.holds]
    exact ⟨⟨by omega, by omega, by omega, trivial, fun j => (arr_has' hw j).2⟩, rfl⟩
end Go.Ev.D
/- What is said of counts answers true. -/
set_option linter.unusedVariables false
set_option linter.unusedSimpArgs false
namespace Go.Ev.D
open Go.Proofs
def rcdiffC : Ctr := cdiffC
def awake38C : Ctr := { args := [], res := [.bool], pre := none, fn := fun (x : Unit) => true }
def awake38G : List (Nat × Ctr) := [(17, caddC), (19, cgetC), (21, csumC), (23, cdiffC), (25, ctextC)]
theorem awake38_tree : (fun x : Unit => evFn (mkC tys awake38G [] true) (fnOf Tryd.prog 27) (resL awake38C.args x) awake38C.res) =
  (fun x => Tree.leaf true) := by kernel_rfl
theorem awake38_ok : CtrOK Tryd.prog 27 awake38C :=
  fun_okX true (G := awake38G) (Λ := []) tysOK (ctrs_cons cadd_ok (ctrs_cons cget_ok (ctrs_cons csum_ok (ctrs_cons cdiff_ok (ctrs_cons ctext_ok ctrs_nil))))) mixed (by kernel_rfl) (by kernel_rfl) (by kernel_rfl) (by kernel_rfl) lp_nil fun (x : Unit) hw _ => by
    rw [congrFun awake38_tree x]
    exact holds_val (d := awake38C.fn x) (by kernel_rfl) (by simp [Tree.safe])
def csaysG : List (Nat × Ctr) := [(27, awake38C), (17, caddC), (18, rcaddC), (19, cgetC), (20, rcgetC), (21, csumC), (22, rcsumC), (23, cdiffC), (24, rcdiffC), (25, ctextC), (26, rctextC)]
theorem csaysG_ok : CtrsOK Tryd.prog (fun f => lk f csaysG) := (ctrs_cons awake38_ok (ctrs_cons cadd_ok (ctrs_cons rcadd_ok (ctrs_cons cget_ok (ctrs_cons rcget_ok (ctrs_cons csum_ok (ctrs_cons rcsum_ok (ctrs_cons cdiff_ok (ctrs_cons rcdiff_ok (ctrs_cons ctext_ok (ctrs_cons rctext_ok ctrs_nil)))))))))))
def csaysC : Ctr := { args := [g8, g8, .arr 2 (.int .i64)], res := [.bool], pre := some (smallD [g8, g8, .arr 2 (.int .i64)]), fn := fun _ => true }
theorem csays_tree : (fun x : List Int × List Int × List Int => evFn (mkC tys csaysG []) (fnOf Tryd.prog 3) (resL csaysC.args x) csaysC.res) =
  (fun x =>
    Tree.leaf
      (bif
          bif
              bif
                  bif
                      bif
                          geq (GTy.arr (8 : Nat) (GTy.int IntKind.i64)) (caddF x.1 (List.getD x.2.2 (0 : Nat) (0 : Int)) (List.getD x.2.2 (1 : Nat) (0 : Int)))
                            (caddF x.1 (List.getD x.2.2 (0 : Nat) (0 : Int)) (List.getD x.2.2 (1 : Nat) (0 : Int))) then
                        cgetF x.1 (List.getD x.2.2 (0 : Nat) (0 : Int)) == cgetF x.1 (List.getD x.2.2 (0 : Nat) (0 : Int))
                      else false then
                    geq (GTy.arr (8 : Nat) (GTy.int IntKind.i64)) (csumF [x.1, x.2.1]) (csumF [x.1, x.2.1])
                  else false then
                geq (GTy.arr (8 : Nat) (GTy.int IntKind.i64)) (cdiffF x.1 x.2.1) (cdiffF x.1 x.2.1)
              else false then
            ctextF x.1 == ctextF x.1
          else false then
        true
      else false)) := by kernel_rfl
theorem csays_ok : CtrOK Tryd.prog 3 csaysC :=
  fun_ok (G := csaysG) (Λ := []) tysOK csaysG_ok mixed (by kernel_rfl) (by kernel_rfl) (by kernel_rfl) (by kernel_rfl) lp_nil fun (x : List Int × List Int × List Int) hw _ => by
    rw [congrFun csays_tree x]
    simp only [Tree.holds]
    rw [geqArr rfl, geqArr rfl, geqArr rfl]
    simp [csaysC]
end Go.Ev.D
/- Counts never fall. -/
set_option linter.unusedVariables false
set_option linter.unusedSimpArgs false
namespace Go.Ev.D
open Go.Proofs
def crisesG : List (Nat × Ctr) := [(27, awake38C), (17, caddC), (21, csumC), (23, cdiffC)]
theorem crisesG_ok : CtrsOK Tryd.prog (fun f => lk f crisesG) := (ctrs_cons awake38_ok (ctrs_cons cadd_ok (ctrs_cons csum_ok (ctrs_cons cdiff_ok ctrs_nil))))
def criseI : LoopD where
  prom := []
  ts := [(2, .val .bool), (3, .ptr 3 g8), (6, .ptr 6 g8), (24, .val (.int .i64))]
  bs := [(3, .var g8), (6, .var g8)]
  pre := fun (x : (Bool × Int × Unit) × (List Int × List Int × Unit)) => 0 ≤ x.1.2.1 ∧ x.1.2.1 ≤ 8 ∧ ∀ j, x.2.1.getD j 0 ≤ x.2.2.1.getD j 0 ∧ x.2.2.1.getD j 0 ≤ 1152921504606846976
  out := fun (x : (Bool × Int × Unit) × (List Int × List Int × Unit)) => .leaf (.exit 2, ((x.1.1, 8, ()), (x.2.1, x.2.2.1, ())))
def criseO : LoopD where
  prom := []
  ts := [(2, .val .bool), (3, .ptr 3 g8), (12, .val (.sl (.arr 2 (.int .i64)))), (13, .val (.int .i64)), (14, .val (.int .i64))]
  bs := [(3, .var g8)]
  pre := fun (x : (Bool × List (List Int) × Int × Int × Unit) × (List Int × Unit)) => 0 ≤ x.1.2.2.2.1 ∧ x.1.2.2.2.1 ≤ x.1.2.2.1 ∧ x.1.2.2.1 = x.1.2.1.length ∧ x.1.2.2.1 ≤ 4611686018427387904 ∧ x.2.1.length = 8 ∧ ∀ j, 0 ≤ x.2.1.getD j 0 ∧ x.2.1.getD j 0 ≤ 1152921504606846976
  out := fun (x : (Bool × List (List Int) × Int × Int × Unit) × (List Int × Unit)) => .leaf (.exit 0, ((x.1.1, x.1.2.1, x.1.2.2.1, x.1.2.2.1, ()), ((x.1.2.1.drop x.1.2.2.2.1.toNat).foldl (fun o p => caddF o (p.getD 0 0) (p.getD 1 0)) x.2.1, ())))
theorem crise_round : (fun x : (Bool × Int × Unit) × (List Int × List Int × Unit) => roundOf (mkC tys crisesG [(2, criseI.spec), (0, criseO.spec)]) criseI (loopB 2 (bodyOf (fnOf Tryd.prog 4))) x) =
  (fun x =>
    Tree.br (decide (x.1.2.1 < (8 : Int)))
      (Tree.need ((0 : Int) ≤ x.1.2.1 ∧ x.1.2.1 < (8 : Int))
        (Tree.need ((0 : Int) ≤ x.1.2.1 ∧ x.1.2.1 < (8 : Int))
          (Tree.need ((decide (List.getD x.2.2.1 (Int.toNat x.1.2.1) (0 : Int) < List.getD x.2.1 (Int.toNat x.1.2.1) (0 : Int)) == false && true) = true → (0 : Int) ≤ x.1.2.1 ∧ x.1.2.1 < (8 : Int))
            (Tree.br
              (bif decide (List.getD x.2.2.1 (Int.toNat x.1.2.1) (0 : Int) < List.getD x.2.1 (Int.toNat x.1.2.1) (0 : Int)) then true
              else decide (List.getD x.2.2.1 (Int.toNat x.1.2.1) (0 : Int) > (1152921504606846976 : Int)))
              (Tree.leaf (Ex.ret, some ((false, x.1.2.1, ()), x.2.1, x.2.2.1, ()))) (Tree.leaf (Ex.normal, some ((x.1.1, IntKind.wrap IntKind.i64 (x.1.2.1 + (1 : Int)), ()), x.2.1, x.2.2.1, ())))))))
      (Tree.leaf (Ex.exit (2 : Nat), some ((x.1.1, x.1.2.1, ()), x.2.1, x.2.2.1, ())))) := by kernel_rfl
theorem crise_inner : LoopOK (mkC tys crisesG [(2, criseI.spec), (0, criseO.spec)]) criseI.spec (loopB 2 (bodyOf (fnOf Tryd.prog 4))) :=
  loopD_ok1 (fun _ => rfl) (fun x => congrFun crise_round x) (fun (x : (Bool × Int × Unit) × (List Int × List Int × Unit)) => (8 - x.1.2.1).toNat) fun (x : (Bool × Int × Unit) × (List Int × List Int × Unit)) hp => by
    obtain ⟨⟨r, i, ⟨⟩⟩, a, c, ⟨⟩⟩ := x
    obtain ⟨h1, h2, h3⟩ := hp
    simp only at h1 h2 h3
    simp only [Tree.holds]
    refine ⟨fun h => ?_, fun h => ?_⟩
    · have h' : i < 8 := by simpa using h
      have e : IntKind.i64.wrap (i + 1) = i + 1 := i64_id (by omega) (by omega)
      have hi : 0 ≤ i ∧ i < 8 := ⟨h1, h'⟩
      have h4 := h3 i.toNat
      refine ⟨hi, hi, fun _ => hi, fun h5 => ?_, fun h5 => ⟨_, rfl, ⟨?_, ?_, h3⟩, ?_, rfl⟩⟩
      · exfalso
        have e1 : decide (c.getD i.toNat 0 < a.getD i.toNat 0) = false := decide_eq_false (by omega)
        have e2 : decide (c.getD i.toNat 0 > (1152921504606846976 : Int)) = false := decide_eq_false (by omega)
        rw [e1, e2] at h5
        cases h5
      · show 0 ≤ IntKind.i64.wrap (i + 1); omega
      · show IntKind.i64.wrap (i + 1) ≤ 8; omega
      · show (8 - IntKind.i64.wrap (i + 1)).toNat < (8 - i).toNat; omega
    · have h' : ¬ i < 8 := by simpa using h
      have hi : i = 8 := by omega
      subst hi
      exact ⟨_, rfl, rfl⟩
theorem crise_outer : (fun x : (Bool × List (List Int) × Int × Int × Unit) × (List Int × Unit) => roundOf (mkC tys crisesG [(2, criseI.spec), (0, criseO.spec)]) criseO (loopB 0 (bodyOf (fnOf Tryd.prog 4))) x) =
  (fun x =>
    Tree.br (decide (x.1.2.2.2.1 < x.1.2.2.1))
      (Tree.need ((0 : Int) ≤ x.1.2.2.2.1 ∧ x.1.2.2.2.1 < (↑(List.length x.1.2.1) : Int))
        (Tree.need
          ((0 : Int) ≤ (0 : Int) ∧
            (0 : Int) ≤ (8 : Int) ∧
              ∀ (j : Nat),
                List.getD x.2.1 j (0 : Int) ≤
                    List.getD
                      (caddF x.2.1 (List.getD (List.getD x.1.2.1 (Int.toNat x.1.2.2.2.1) (List.replicate (2 : Nat) (0 : Int))) (0 : Nat) (0 : Int))
                        (List.getD (List.getD x.1.2.1 (Int.toNat x.1.2.2.2.1) (List.replicate (2 : Nat) (0 : Int))) (1 : Nat) (0 : Int)))
                      j (0 : Int) ∧
                  List.getD
                      (caddF x.2.1 (List.getD (List.getD x.1.2.1 (Int.toNat x.1.2.2.2.1) (List.replicate (2 : Nat) (0 : Int))) (0 : Nat) (0 : Int))
                        (List.getD (List.getD x.1.2.1 (Int.toNat x.1.2.2.2.1) (List.replicate (2 : Nat) (0 : Int))) (1 : Nat) (0 : Int)))
                      j (0 : Int) ≤
                    (1152921504606846976 : Int))
          (Tree.br
            (!geq (GTy.arr (8 : Nat) (GTy.int IntKind.i64))
                (csumF
                  [x.2.1,
                    cdiffF x.2.1
                      (caddF x.2.1 (List.getD (List.getD x.1.2.1 (Int.toNat x.1.2.2.2.1) (List.replicate (2 : Nat) (0 : Int))) (0 : Nat) (0 : Int))
                        (List.getD (List.getD x.1.2.1 (Int.toNat x.1.2.2.2.1) (List.replicate (2 : Nat) (0 : Int))) (1 : Nat) (0 : Int)))])
                (caddF x.2.1 (List.getD (List.getD x.1.2.1 (Int.toNat x.1.2.2.2.1) (List.replicate (2 : Nat) (0 : Int))) (0 : Nat) (0 : Int))
                  (List.getD (List.getD x.1.2.1 (Int.toNat x.1.2.2.2.1) (List.replicate (2 : Nat) (0 : Int))) (1 : Nat) (0 : Int))))
            (Tree.leaf (Ex.ret, some ((false, x.1.2.1, x.1.2.2.1, x.1.2.2.2.1, ()), x.2.1, ())))
            (Tree.leaf
              (Ex.normal,
                some
                  ((x.1.1, x.1.2.1, x.1.2.2.1, IntKind.wrap IntKind.i64 (x.1.2.2.2.1 + (1 : Int)), ()),
                    caddF x.2.1 (List.getD (List.getD x.1.2.1 (Int.toNat x.1.2.2.2.1) (List.replicate (2 : Nat) (0 : Int))) (0 : Nat) (0 : Int))
                      (List.getD (List.getD x.1.2.1 (Int.toNat x.1.2.2.2.1) (List.replicate (2 : Nat) (0 : Int))) (1 : Nat) (0 : Int)),
                    ()))))))
      (Tree.leaf (Ex.exit (0 : Nat), some ((x.1.1, x.1.2.1, x.1.2.2.1, x.1.2.2.2.1, ()), x.2.1, ())))) := by kernel_rfl
theorem crise_loop : LoopOK (mkC tys crisesG [(2, criseI.spec), (0, criseO.spec)]) criseO.spec (loopB 0 (bodyOf (fnOf Tryd.prog 4))) :=
  loopD_ok1 (fun _ => rfl) (fun x => congrFun crise_outer x) (fun (x : (Bool × List (List Int) × Int × Int × Unit) × (List Int × Unit)) => (x.1.2.2.1 - x.1.2.2.2.1).toNat) fun (x : (Bool × List (List Int) × Int × Int × Unit) × (List Int × Unit)) hp => by
    obtain ⟨⟨r, l, n, i, ⟨⟩⟩, a, ⟨⟩⟩ := x
    obtain ⟨h1, h2, h3, h4, h5, h6⟩ := hp
    simp only at h1 h2 h3 h4 h5 h6
    simp only [Tree.holds]
    refine ⟨fun h => ?_, fun h => ?_⟩
    · have h' : i < n := by simpa using h
      have e : IntKind.i64.wrap (i + 1) = i + 1 := i64_id (by omega) (by omega)
      have hd := drop_row (l := l) (i := i) (List.replicate 2 0) h1 (by omega)
      generalize l.getD i.toNat (List.replicate 2 0) = p at hd ⊢
      have hlen : (caddF a (p.getD 0 0) (p.getD 1 0)).length = 8 := caddF_len h5
      have hget := fun j => caddF_get (w := p.getD 0 0) (n := p.getD 1 0) h5 h6 j
      have hsum : csumF [a, cdiffF a (caddF a (p.getD 0 0) (p.getD 1 0))] = caddF a (p.getD 0 0) (p.getD 1 0) := sum_diff h5 hlen fun j => ⟨(h6 j).1, (hget j).1, (hget j).2⟩
      refine ⟨⟨h1, by omega⟩, ⟨by omega, by omega, hget⟩, fun h7 => ?_, fun h7 => ⟨_, rfl, ⟨?_, ?_, h3, h4, hlen, fun j => ⟨Int.le_trans (h6 j).1 (hget j).1, (hget j).2⟩⟩, ?_, ?_⟩⟩
      · exfalso
        rw [hsum, geqArr rfl] at h7
        simp at h7
      · show 0 ≤ IntKind.i64.wrap (i + 1); omega
      · show IntKind.i64.wrap (i + 1) ≤ n; omega
      · show (n - IntKind.i64.wrap (i + 1)).toNat < (n - i).toNat; omega
      · show (Ex.exit 0, ((r, l, n, n, ()), ((l.drop (IntKind.i64.wrap (i + 1)).toNat).foldl (fun o p => caddF o (p.getD 0 0) (p.getD 1 0)) (caddF a (p.getD 0 0) (p.getD 1 0)), ()))) = (Ex.exit 0, ((r, l, n, n, ()), ((l.drop i.toNat).foldl (fun o p => caddF o (p.getD 0 0) (p.getD 1 0)) a, ())))
        rw [e, hd]
        rfl
    · have h' : ¬ i < n := by simpa using h
      have hi : i = n := by omega
      subst hi
      refine ⟨_, rfl, ?_⟩
      show (Ex.exit 0, ((r, l, i, i, ()), ((l.drop i.toNat).foldl (fun o p => caddF o (p.getD 0 0) (p.getD 1 0)) a, ()))) = _
      rw [List.drop_eq_nil_of_le (by omega)]
      rfl
def crisesC : Ctr := { args := [.sl (.arr 2 (.int .i64))], res := [.bool], pre := some (smallD [.sl (.arr 2 (.int .i64))]), fn := fun _ => true }
theorem crises_tree : (fun x : List (List Int) => evFn (mkC tys crisesG [(2, criseI.spec), (0, criseO.spec)]) (fnOf Tryd.prog 4) (resL crisesC.args x) crisesC.res) =
  (fun x =>
    Tree.br (decide ((↑(List.length x) : Int) > (100 : Int))) (Tree.leaf true)
      (Tree.need
        ((0 : Int) ≤ (0 : Int) ∧
          (0 : Int) ≤ (↑(List.length x) : Int) ∧
            (↑(List.length x) : Int) = (↑(List.length x) : Int) ∧
              (↑(List.length x) : Int) ≤ (4611686018427387904 : Int) ∧
                (8 : Nat) = (8 : Nat) ∧
                  ∀ (j : Nat), (0 : Int) ≤ List.getD (List.replicate (8 : Nat) (0 : Int)) j (0 : Int) ∧ List.getD (List.replicate (8 : Nat) (0 : Int)) j (0 : Int) ≤ (1152921504606846976 : Int))
        (Tree.leaf true))) := by kernel_rfl
theorem crises_ok : CtrOK Tryd.prog 4 crisesC :=
  fun_ok (G := crisesG) (Λ := [(2, criseI.spec), (0, criseO.spec)]) tysOK crisesG_ok mixed (by kernel_rfl) (by kernel_rfl) (by kernel_rfl) (by kernel_rfl) (lp_cons crise_inner (lp_cons crise_loop lp_nil)) fun (x : List (List Int)) hw _ => by
    rw [congrFun crises_tree x]
    have hl : x.length ≤ 140737488355328 := hw.1
    simp only [Tree.holds]
    refine ⟨fun _ => rfl, fun _ => ⟨⟨by omega, by omega, trivial, by omega, trivial, fun j => ?_⟩, rfl⟩⟩
    rw [List.getD_eq_getElem?_getD, List.getElem?_replicate]
    split
    · exact ⟨by decide, by decide⟩
    · exact ⟨by decide, by decide⟩
end Go.Ev.D
