/- What a row reads, told in types. -/
import Derived.Deep.Slices
import Derived.ChangeSame
import Derived.Carry
import Derived.RowKit3
import Derived.OpenShut
import Derived.ChangeCalls
import Derived.Shelf.Strings.Builder1
import Derived.Shelf.Utf8.RuneCount
import Derived.Shelf.Strconv.Itoa0
import Derived.Shelf.Strconv.Itoa1
import Derived.Shelf.LaysM
import Derived.Shelf.Strconv.Itoa2
import Derived.Shelf.Strconv.Itoa3
import Derived.Shelf.Strings.Search1
import Derived.Shelf.Strings.Search2
import Derived.Shelf.Strings.Search3
import Derived.Shelf.Strings.Cut
import Derived.Shelf.Strings.Count
import Derived.Shelf.Strings.Shaped
import Derived.Shelf.Strings.Split
import Derived.Shelf.Strings.SplitShaped
import Derived.Shelf.Unicode.Decode
import Derived.Shelf.Strings.RuneCount
import Derived.Shelf.Strings.Explode
import Derived.Shelf.Unicode.DecodeSlow
import Derived.Shelf.Unicode.DecodeAny
import Derived.Test.YtohodbfoeejbjaaDoorProg
import Derived.Test.YtohodbfoeejbjaaDoorTextConfAll8

set_option linter.unusedVariables false
set_option linter.unusedSimpArgs false
namespace Go.Ev
open Go.ChangeShapes Go.RowKit

mutual
def bulk {H : Type} : DataW H → Nat
  | .lit (.string bytes) => bytes.length + 1
  | .lit _ => 1
  | .nil => 1
  | .ptr d => bulk d + 1
  | .slice elems spare => bulkAll elems + bulkAll spare + 1
  | .agg parts => bulkAll parts + 1
  | .iface _ d => bulk d + 1
  | .map entries => bulkEntries entries + 1
  | .held _ => 1
def bulkAll {H : Type} : List (DataW H) → Nat
  | [] => 0
  | d :: r => bulk d + bulkAll r
def bulkEntries {H : Type} : List (Lit × DataW H) → Nat
  | [] => 0
  | x :: r => bulkEntry x + bulkEntries r
def bulkEntry {H : Type} : Lit × DataW H → Nat
  | (.string bytes, d) => bytes.length + bulk d + 1
  | (_, d) => bulk d + 1
end

theorem bulk_mem {H : Type} {d : DataW H} : ∀ {l : List (DataW H)}, d ∈ l → bulk d ≤ bulkAll l
  | [], h => by simp at h
  | x :: l, h => by
    simp only [bulkAll]
    rcases List.mem_cons.1 h with rfl | h
    · omega
    · have := bulk_mem h; omega

theorem bulk_pos {H : Type} : ∀ (d : DataW H), 1 ≤ bulk d := by
  intro d
  cases d with
  | lit l => cases l <;> simp [bulk]
  | _ => simp [bulk]

theorem bulk_len {H : Type} : ∀ (l : List (DataW H)), l.length ≤ bulkAll l
  | [] => by simp [bulkAll]
  | x :: l => by
    have := bulk_len l
    have := bulk_pos x
    simp only [bulkAll, List.length_cons]
    omega

abbrev allS (w : World) : Stab := fun b _ => b < w.heap.size

section
variable {P : Program} {τ : Tys} {w : World} {H : Type} {enc : TypeId × Value → H}

theorem cellsOf_eq (TOK : TysOK P τ) {t : TypeId} {i : TInfo} (hi : τ t = some i) : P.cellsOf t = ncell i.g := by
  obtain ⟨ti, h1, h2, _⟩ := (TOK t i hi).info
  simp [Program.cellsOf, h1, h2]

/-- A chain, out of its fields. -/
theorem chain_enc {S : Stab} : ∀ {n : Nat} {g : GTy} {cs : List Value}, Chain n g → cs.length = ncell g → (∀ k, k < n → ∃ h x, pathTy g (fieldPath n k) = some h ∧ Enc w S h x ((cs.drop (offs g (fieldPath n k))).take (ncell h)) ∧ small h x) → ∃ x, Enc w S g x cs ∧ small g x
  | 1, .prod a .unit, cs, _, hl, h => by
    obtain ⟨h', x, h1, h2, h3⟩ := h 0 (by omega)
    simp only [fieldPath, pathTy, Option.some.injEq] at h1
    subst h1
    simp only [fieldPath, offs, List.drop_zero] at h2
    simp only [ncell, Nat.add_zero] at hl
    rw [List.take_of_length_le (by omega)] at h2
    exact ⟨(x, ()), ⟨cs, [], by simp, h2, rfl⟩, h3, trivial⟩
  | 2, .prod a b, cs, _, hl, h => by
    obtain ⟨h0, x, p1, p2, p3⟩ := h 0 (by omega)
    obtain ⟨h1, y, q1, q2, q3⟩ := h 1 (by omega)
    simp only [fieldPath, pathTy, Option.some.injEq] at p1 q1
    subst p1
    subst q1
    simp only [fieldPath, offs, List.drop_zero, Nat.add_zero] at p2 q2
    simp only [ncell] at hl
    rw [List.take_of_length_le (by simp; omega)] at q2
    exact ⟨(x, y), ⟨_, _, (List.take_append_drop (ncell a) cs).symm, p2, q2⟩, p3, q3⟩
  | n + 3, .prod a b, cs, hc, hl, h => by
    obtain ⟨h0, x, p1, p2, p3⟩ := h 0 (by omega)
    simp only [fieldPath, pathTy, Option.some.injEq] at p1
    subst p1
    simp only [fieldPath, offs, List.drop_zero] at p2
    simp only [ncell] at hl
    obtain ⟨y, hy, hy'⟩ := chain_enc (n := n + 2) (g := b) (cs := cs.drop (ncell a)) hc (by simp; omega) (fun k hk => by
      obtain ⟨h', z, r1, r2, r3⟩ := h (k + 1) (by omega)
      refine ⟨h', z, ?_, ?_, r3⟩
      · simpa only [fieldPath, pathTy] using r1
      · simp only [fieldPath, offs] at r2
        rw [List.drop_drop]
        exact r2)
    exact ⟨(x, y), ⟨_, _, (List.take_append_drop (ncell a) cs).symm, p2, hy⟩, p3, hy'⟩
theorem mapM_get {α β : Type} {f : α → Option β} : ∀ {l : List α} {r : List β}, l.mapM f = some r → r.length = l.length ∧ ∀ (k : Nat) (a : α), l[k]? = some a → ∃ b, r[k]? = some b ∧ f a = some b
  | [], r, h => by
    simp at h
    subst h
    simp
  | a :: l, r, h => by
    rw [List.mapM_cons] at h
    cases ha : f a with
    | none => simp [ha] at h
    | some b =>
      cases hl : l.mapM f with
      | none => simp [ha, hl] at h
      | some r' =>
        simp [ha, hl] at h
        subst h
        obtain ⟨h1, h2⟩ := mapM_get hl
        refine ⟨by simp [h1], fun k x hk => ?_⟩
        cases k with
        | zero => simp at hk; subst hk; exact ⟨b, by simp, ha⟩
        | succ k => simpa using h2 k x (by simpa using hk)

/-- A row of n, out of its places. -/
theorem row_enc {S : Stab} {g : GTy} : ∀ (n : Nat) {cs : List Value}, cs.length = n * ncell g → (∀ k, k < n → ∃ x, Enc w S g x ((cs.drop (k * ncell g)).take (ncell g)) ∧ small g x) → ∃ xs : List (den g), xs.length = n ∧ encL (Enc w S g) xs cs ∧ ∀ x, x ∈ xs → small g x
  | 0, cs, hl, _ => ⟨[], rfl, by simp at hl; exact hl, by simp⟩
  | n + 1, cs, hl, h => by
    obtain ⟨x, hx, hsx⟩ := h 0 (by omega)
    simp only [Nat.zero_mul, List.drop_zero] at hx
    rw [Nat.add_mul, Nat.one_mul] at hl
    obtain ⟨xs, h1, h2, h3⟩ := row_enc (S := S) (g := g) n (cs := cs.drop (ncell g)) (by rw [List.length_drop, hl]; omega) (fun k hk => by
      obtain ⟨y, hy, hsy⟩ := h (k + 1) (by omega)
      refine ⟨y, ?_, hsy⟩
      rw [List.drop_drop]
      rw [Nat.add_mul, Nat.one_mul, Nat.add_comm] at hy
      exact hy)
    exact ⟨x :: xs, by simp [h1], ⟨_, _, (List.take_append_drop (ncell g) cs).symm, hx, h2⟩, fun z hz => by
      rcases List.mem_cons.1 hz with rfl | hz
      · exact hsx
      · exact h3 z hz⟩
theorem cells_get {base : Nat} {a : Addr} {n : Nat} {cs : List Value} (h : w.cells? base a n = some cs) : cs.length = n ∧ ∀ j, j < n → ∃ v, cs[j]? = some v ∧ w.cell? (a.add j) = some v := by
  unfold World.cells? at h
  split at h
  · obtain ⟨h1, h2⟩ := mapM_get h
    refine ⟨by simpa using h1, fun j hj => ?_⟩
    obtain ⟨v, h3, h4⟩ := h2 j j (by simp [hj])
    exact ⟨v, h3, h4⟩
  · cases h

theorem cell_spot {a : Addr} {v : Value} (h : w.cell? a = some v) : a.spot = none ∧ a.block < w.heap.size := by
  unfold World.cell? at h
  split at h
  · rename_i c _ _ hc
    split at h
    · cases h
    · rename_i hs
      exact ⟨by simpa using hs, (Array.getElem?_eq_some_iff.1 hc).1⟩
  · cases h

theorem trod_enc (TOK : TysOK P τ) : ∀ (fuel : Nat) (t : TypeId) (i : TInfo) (cs : List Value) (x : DataW H × List MemPlace), τ t = some i → DataW.trod enc P w 0 (fun _ => true) true fuel t cs = some x → bulk x.1 ≤ 1048576 → ∃ y, Enc w (allS w) i.g y cs ∧ small i.g y
  | 0, t, i, cs, x, _, h, _ => by simp [DataW.trod] at h
  | fuel + 1, t, i, cs, x, hi, h, hb => by
    have T := TOK t i hi
    have hd := T.desc
    have hcl := cellsOf_eq (P := P) TOK hi
    obtain ⟨g, nf, by_, el⟩ := i
    cases g with
    | unit => exact hd.elim
    | err =>
      obtain ⟨ms, hd⟩ := hd
      simp only [DataW.trod, hd] at h
      split at h <;> first | exact ⟨false, .inl ⟨rfl, rfl⟩, trivial⟩ | exact ⟨true, .inr ⟨rfl, _, _, rfl⟩, trivial⟩ | (simp_all; done)
    | bool =>
      simp only at hd
      simp only [DataW.trod, hd] at h
      split at h <;> first | exact ⟨_, rfl, trivial⟩ | simp_all
    | int k =>
      simp only at hd
      simp only [DataW.trod, hd] at h
      split at h <;> try (simp_all; done)
      rename_i k' k2 n heq
      split at h
      · rename_i hk
        simp only [Option.some.injEq, TypeDesc.int.injEq] at heq
        obtain ⟨hk1, hk2⟩ := hk
        subst heq
        subst hk1
        simp only [Lit.wf, Bool.and_eq_true, decide_eq_true_eq] at hk2
        exact ⟨n, ⟨rfl, hk2⟩, trivial⟩
      · cases h
    | str =>
      simp only at hd
      simp only [DataW.trod, hd] at h
      split at h <;> try (simp_all; done)
      rename_i s' _
      split at h
      · rename_i hs
        simp only [Option.some.injEq] at h
        subst h
        simp only [bulk] at hb
        refine ⟨s'.data.toList, ⟨rfl, ?_⟩, ?_⟩
        · simp only [maxStr]; omega
        · show List.length _ ≤ _
          omega
      · cases h
    | prod a b =>
      obtain ⟨fs, q1, q2, q3, q4, q5⟩ := hd
      simp only [DataW.trod, q1] at h
      split at h
      · rename_i hl
        obtain ⟨xs, h1, h2⟩ := Option.map_eq_some_iff.1 h
        obtain ⟨h3, h4⟩ := mapM_get h1
        subst h2
        refine chain_enc q3 (by rw [hl, hcl]) (fun k hk => ?_)
        have hk' : k < fs.size := by omega
        obtain ⟨r1, r2, r3, j, r4, r5, r6⟩ := q5 k fs[k] (by simp [hk'])
        obtain ⟨y, h5, h6⟩ := h4 k fs[k] (by simp [hk'])
        have hby : bulk y.1 ≤ 1048576 := by
          have := bulk_mem (d := y.1) (l := xs.map (·.1)) (List.mem_map.2 ⟨y, List.mem_of_getElem? h5, rfl⟩)
          simp only [bulk] at hb
          omega
        obtain ⟨z, hz, hsz⟩ := trod_enc TOK fuel _ j _ _ r4 h6 hby
        refine ⟨j.g, z, r5, ?_, hsz⟩
        rw [r2, cellsOf_eq TOK r4] at hz
        exact hz
      · cases h
    | arr n a =>
      obtain ⟨e, j, q1, q2, q3⟩ := hd
      subst q3
      simp only [DataW.trod, q1] at h
      split at h
      · rename_i hl
        obtain ⟨xs, h1, h2⟩ := Option.map_eq_some_iff.1 h
        obtain ⟨h3, h4⟩ := mapM_get h1
        subst h2
        have hce := cellsOf_eq (P := P) TOK q2
        obtain ⟨zs, k1, k2, k3⟩ := row_enc (w := w) (S := allS w) (g := j.g) n (cs := cs) (by rw [hl, hcl]; rfl) (fun k hk => by
          obtain ⟨y, h5, h6⟩ := h4 k k (by simp [hk])
          have hby : bulk y.1 ≤ 1048576 := by
            have := bulk_mem (d := y.1) (l := xs.map (·.1)) (List.mem_map.2 ⟨y, List.mem_of_getElem? h5, rfl⟩)
            simp only [bulk] at hb
            omega
          rw [hce] at h6
          exact trod_enc TOK fuel _ j _ _ q2 h6 hby)
        exact ⟨zs, ⟨k1, k2⟩, k3⟩
      · cases h
    | sl a =>
      obtain ⟨e, j, ti, q1, q2, q3, q4, q5, q6, q7, q8, q9⟩ := hd
      subst q4
      have hce := cellsOf_eq (P := P) TOK q3
      have hadd : ∀ (blk off j : Nat), (⟨blk, off, none⟩ : Addr).add j = ⟨blk, off + j, none⟩ := by
        intro blk off j
        unfold Addr.add
        split
        · rename_i hj; subst hj; rfl
        · rfl
      simp only [DataW.trod, q1] at h
      split at h <;> try (simp_all; done)
      · exact ⟨[], ⟨none, 0, rfl, Nat.le_refl _, by simp, by simp [maxRow], .inl rfl⟩, by simp, by simp⟩
      · rename_i e' ad len cap heq
        simp only [Option.some.injEq, TypeDesc.slice.injEq] at heq
        subst heq
        split at h
        · rename_i hcond
          obtain ⟨elems, h1, h2⟩ := Option.bind_eq_some_iff.1 h
          obtain ⟨rest, h3, h4⟩ := Option.map_eq_some_iff.1 h2
          subst h4
          obtain ⟨k1, k2⟩ := mapM_get h1
          have hlen : len ≤ 1048576 := by
            have := bulk_len (elems.map (·.1))
            simp only [bulk] at hb
            simp at this k1
            omega
          have hel : ∀ k, k < len → ∃ ck z, w.cells? 0 (ad.add (k * ncell j.g)) (ncell j.g) = some ck ∧ Enc w (allS w) j.g z ck ∧ small j.g z := by
            intro k hk
            obtain ⟨y, h5, h6⟩ := k2 k k (by simp [hk])
            obtain ⟨ck, h7, h8⟩ := Option.bind_eq_some_iff.1 h6
            have hby : bulk y.1 ≤ 1048576 := by
              have := bulk_mem (d := y.1) (l := elems.map (·.1)) (List.mem_map.2 ⟨y, List.mem_of_getElem? h5, rfl⟩)
              simp only [bulk] at hb
              omega
            rw [hce] at h7
            obtain ⟨z, hz, hsz⟩ := trod_enc TOK fuel _ j _ _ q3 h8 hby
            exact ⟨ck, z, h7, hz, hsz⟩
          rcases Nat.eq_zero_or_pos len with h0 | h0
          · subst h0
            exact ⟨[], ⟨some ad, cap, rfl, Nat.zero_le _, by simp, by simp [maxRow], .inl rfl⟩, by simp, by simp⟩
          · have hspot : ad.spot = none := by
              obtain ⟨ck, z, h7, _⟩ := hel 0 h0
              obtain ⟨_, h8⟩ := cells_get h7
              obtain ⟨v, _, h9⟩ := h8 0 q9
              rw [Nat.zero_mul, show (ad.add 0).add 0 = ad from rfl] at h9
              exact (cell_spot h9).1
            obtain ⟨blk, off, spot⟩ := ad
            simp only at hspot
            subst hspot
            let ds : List Value := (List.range (len * ncell j.g)).map fun q => (w.cell? ⟨blk, off + q, none⟩).getD undef
            have hds : ∀ k, k < len → ∀ q, q < ncell j.g → ∃ v, w.cell? ⟨blk, off + (k * ncell j.g + q), none⟩ = some v := by
              intro k hk q hq
              obtain ⟨ck, z, h7, _⟩ := hel k hk
              obtain ⟨_, h8⟩ := cells_get h7
              obtain ⟨v, _, h9⟩ := h8 q hq
              rw [hadd, hadd] at h9
              exact ⟨v, by rw [← Nat.add_assoc]; exact h9⟩
            have hseg : ∀ k ck, k < len → w.cells? 0 (Addr.add ⟨blk, off, none⟩ (k * ncell j.g)) (ncell j.g) = some ck → (ds.drop (k * ncell j.g)).take (ncell j.g) = ck := by
              intro k ck hk hc
              obtain ⟨h8, h9⟩ := cells_get hc
              have hle : (k + 1) * ncell j.g ≤ len * ncell j.g := Nat.mul_le_mul_right _ hk
              rw [Nat.add_mul, Nat.one_mul] at hle
              apply List.ext_getElem?
              intro q
              rw [List.getElem?_take]
              split
              · rename_i hq
                obtain ⟨v, h10, h11⟩ := h9 q hq
                rw [hadd, hadd, Nat.add_assoc] at h11
                rw [List.getElem?_drop, h10]
                simp only [ds, List.getElem?_map]
                rw [List.getElem?_range (by omega)]
                simp [h11]
              · rename_i hq
                rw [List.getElem?_eq_none (by omega)]
            obtain ⟨zs, r1, r2, r3⟩ := row_enc (w := w) (S := allS w) (g := j.g) len (cs := ds) (by simp [ds]) (fun k hk => by
              obtain ⟨ck, z, h7, h8, h9⟩ := hel k hk
              exact ⟨z, by rw [hseg k ck hk h7]; exact h8, h9⟩)
            have hlb := (TOK e j q3).small.2
            have hlm : len * lbytes j.g ≤ 1048576 * 1048576 := Nat.mul_le_mul hlen hlb
            refine ⟨zs, ⟨some ⟨blk, off, none⟩, cap, by rw [r1], by rw [r1]; exact hcond.2.1, by rw [r1]; simp only [maxRow]; omega, by rw [r1]; simp only [maxRow]; omega, .inr ⟨blk, off, ds, rfl, r2, fun q v hv => ?_⟩⟩, ?_⟩
            rotate_left
            · exact ⟨by rw [r1]; exact hlen, r3⟩
            simp only [ds, List.getElem?_map] at hv
            by_cases hq : q < len * ncell j.g
            · rw [List.getElem?_range hq] at hv
              have hk : q / ncell j.g < len := by
                rw [Nat.div_lt_iff_lt_mul q9]; exact hq
              obtain ⟨v', hv'⟩ := hds (q / ncell j.g) hk (q % ncell j.g) (Nat.mod_lt _ q9)
              rw [show q / ncell j.g * ncell j.g + q % ncell j.g = q from by rw [Nat.mul_comm]; exact Nat.div_add_mod q _] at hv'
              simp only [hv', Option.map_some, Option.getD_some, Option.some.injEq] at hv
              subst hv
              exact ⟨hv', (cell_spot hv').2⟩
            · rw [List.getElem?_eq_none (by simp; omega)] at hv
              simp at hv
        · cases h

/-- An argument is as the machine hands it round. -/
theorem val_of_ok (TOK : TysOK P τ) {t : TypeId} {i : TInfo} (hi : τ t = some i) {base : Nat} {v : Value} (hok : Value.okWide P w .any base t v) (hl : v.cells.toList.length = ncell i.g) : v = toVal i.g v.cells.toList := by
  have T := TOK t i hi
  have ha := T.agg
  unfold toVal
  cases h : isAgg i.g with
  | true =>
    rw [h] at ha
    unfold Value.okWide at hok
    split at hok
    · obtain ⟨cs, rfl, _⟩ := hok; simp [Value.cells]
    · obtain ⟨cs, rfl, _⟩ := hok; simp [Value.cells]
    · rename_i h1 h2
      split at ha
      · rename_i hu; exact (h1 _ hu).elim
      · rename_i hu; exact (h2 _ _ hu).elim
      · cases ha
  | false =>
    rw [h] at ha
    have hna : ∀ cs, v ≠ .agg cs := by
      rintro cs rfl
      unfold Value.okWide at hok
      split at hok
      · rename_i hu; simp [hu] at ha
      · rename_i hu; simp [hu] at ha
      · unfold Cell.okWide at hok
        split at hok <;> try (rename_i hh; cases hh; done)
        unfold Cell.ok at hok
        split at hok <;> first | exact hok | (rename_i hh; cases hh)
    cases v <;> first | rfl | exact (hna _ rfl).elim

/-- The types of parameters. -/
def tysD (τ : Tys) : List TypeId → Option (List GTy)
  | [] => some []
  | t :: ts => match τ t, tysD τ ts with
    | some i, some gs => some (i.g :: gs)
    | _, _ => none

theorem trodAll_enc (TOK : TysOK P τ) {base : Nat} : ∀ {ts : List TypeId} {gs : List GTy} {vs : List Value} {ds : List (DataW H)} {ps : List MemPlace}, tysD τ ts = some gs → DataW.TrodAll enc P w 0 (fun _ => true) true ts vs ds ps → bulkAll ds ≤ 1048576 →
    (∀ (j : Nat) t v, ts[j]? = some t → vs[j]? = some v → Value.okWide P w .any base t v) → ∃ x, EncD w (allS w) gs x vs ∧ smallD gs x
  | [], gs, vs, ds, ps, hg, h, _, _ => by
    simp only [tysD, Option.some.injEq] at hg
    subst hg
    obtain ⟨rfl, _, _⟩ := ChangeShapes.trodAll_nil h
    exact ⟨(), rfl, trivial⟩
  | t :: ts, gs, vs, ds, ps, hg, h, hb, hok => by
    simp only [tysD] at hg
    split at hg
    · rename_i i gs' hi hgs
      simp only [Option.some.injEq] at hg
      subst hg
      obtain ⟨v, vs', d, ds', p, q, rfl, rfl, rfl, ⟨fuel, h1⟩, h2⟩ := ChangeShapes.trodAll_cons h
      simp only [bulkAll] at hb
      obtain ⟨x, hx, hsx⟩ := trod_enc TOK fuel t i _ _ hi h1 (by simp only; omega)
      obtain ⟨y, hy, hsy⟩ := trodAll_enc TOK (base := base) hgs h2 (by omega) (fun j t v h3 h4 => hok (j + 1) t v (by simpa using h3) (by simpa using h4))
      have hv := val_of_ok TOK hi (hok 0 t v rfl rfl) hx.len
      cases gs' with
      | nil =>
        have hvs : vs' = [] := hy
        subst hvs
        exact ⟨x, ⟨_, hx, by rw [← hv]⟩, hsx⟩
      | cons g' gs' => exact ⟨(x, y), ⟨_, vs', hx, by rw [← hv], hy⟩, hsx, hsy⟩
    · cases hg

theorem trodAll_stays (hl : laidOutB P = true) {W W' : World} (hb : RowKit.Below W.heap.size W W') {sp : Nat → Bool} : ∀ {ts : List TypeId} {vs : List Value} {ds : List (DataW H)} {ps : List MemPlace}, (∀ t ∈ ts, P.readableRec t = true ∧ t < P.types.size) →
    DataW.TrodAll enc P W 0 (fun _ => true) true ts vs ds ps → (∀ p ∈ ps, p.block < W.heap.size) → (∀ p ∈ ps, sp p.block = true) → DataW.TrodAll enc P W' 0 sp true ts vs ds ps
  | [], vs, ds, ps, _, h, _, _ => by
    obtain ⟨rfl, rfl, rfl⟩ := ChangeShapes.trodAll_nil h
    exact ChangeShapes.trodAll_mk0
  | t :: ts, vs, ds, ps, hr, h, hlt, hs => by
    obtain ⟨v, vs', d, ds', p, q, rfl, rfl, rfl, h1, h2⟩ := ChangeShapes.trodAll_cons h
    refine trodAll_cons_mk (WideElems.Trod_stays hl (hr t (by simp)).1 (hr t (by simp)).2 h1 (fun x hx => hb.same (hlt x (by simp [hx]))) (fun x hx => hs x (by simp [hx]))) ?_
    exact trodAll_stays hl hb (fun t ht => hr t (by simp [ht])) h2 (fun p hp => hlt p (by simp [hp])) (fun p hp => hs p (by simp [hp]))

theorem kept_of_grows {W W' : World} (h : Grows W W') (may : MemPlace → Prop) : W.keptBut W' may := by
  refine ⟨h.os, h.output, fun i hi => ?_⟩
  rw [h.block i hi]
  cases hh : W.heap[i]? with
  | none => trivial
  | some o => cases o <;> simp

theorem frozen_of_grows {W W' : World} (h : Grows W W') {b off : Nat} (hb : b < W.heap.size) : W'.frozen? ⟨b, off, none⟩ = W.frozen? ⟨b, off, none⟩ := by
  simp [World.frozen?, h.block b hb]

/-- A law that always answers 'true', as its row asks. -/
theorem law_contract (hl : laidOutB P = true) (TOK : TysOK P τ) {f : Nat} {fn : Func} {gs : List GTy} (hts : tysD τ fn.params.toList = some gs) (hread' : (fn.params.toList.all fun t => P.readableRec t && Nat.blt t P.types.size) = true)
    {tb : TypeId} (hr : fn.resultTypes = #[tb]) (htb : P.underlying tb = some .bool) (hc : CtrOK P f { args := gs, res := [.bool], pre := some (smallD gs), fn := fun _ => true })
    {s : ChangeSpec} (hvars : s.vars = []) (hs : ∀ ds : List (DataW H), ds.length = fn.params.toList.length → s.fn H ds = ⟨[.lit (.bool true)], ds, []⟩) {apart fresh handsOn again : Bool} {W : World} {base : Nat} {args : Array Value} {ds es : List (DataW H)} {before : List MemPlace}
    (hval : ∀ (j : Nat) t v, fn.params[j]? = some t → args[j]? = some v → Value.okWide P W .any base t v) (hW : DataW.Whole enc P fn.params.toList s.vars apart W args.toList ds es before) (hb' : bulkAll (ds ++ es) ≤ 1048576) (hT : Tab (allS W) W) :
    Calls P f args W fun e W' => ∃ v, e = .returned v ∧ s.post enc P fn apart fresh handsOn again W args v W' := by
  have hW' := hW
  obtain ⟨p, q, hA, hV, rfl, hfz, hnd⟩ := hW
  rw [hvars] at hV
  obtain ⟨rfl, rfl⟩ := trodVars_none hV
  have hb : bulkAll ds ≤ 1048576 := by rw [List.append_nil] at hb'; exact hb'
  have hread : ∀ t ∈ fn.params.toList, P.readableRec t = true ∧ t < P.types.size := by
    intro t ht
    have := List.all_eq_true.1 hread' t ht
    simp only [Bool.and_eq_true] at this
    exact ⟨this.1, by simpa [Nat.blt_eq] using this.2⟩
  obtain ⟨x, hx, hsm⟩ := trodAll_enc TOK (base := base) hts hA hb (fun j t v h1 h2 => hval j t v (by simpa using h1) (by simpa using h2))
  have hcall := hc.2 W (allS W) args.toList x (fun b o h => h) hT hx (fun p hp => by simp only [Option.some.injEq] at hp; subst hp; exact hsm)
  simp only [Array.toArray_toList] at hcall
  refine hcall.mono ?_
  rintro e W' ⟨v, he, hg, N, hN, us, ⟨cs, hcs, hus⟩, hv⟩
  subst hus
  simp only at hv
  have hcs' : cs = [.bool true] := hcs
  subst hcs'
  have hv' : v = .bool true := hv
  subst hv'
  have hlt : ∀ x ∈ p, x.block < W.heap.size := fun y hy => hW'.lt y (by simp [hy])
  have hbel : RowKit.Below W.heap.size W W' := ⟨hg.os, hg.tape, hg.output, hg.size, hg.block⟩
  have hlen := (trodAll_length hA).2
  have hfn : s.fn H (ds ++ []) = ⟨[.lit (.bool true)], ds, []⟩ := by
    rw [List.append_nil]; exact hs ds hlen
  have hres : ∀ (b : Nat) (sp : Nat → Bool) (hd : Bool), DataW.TrodAll enc P W' b sp hd fn.resultTypes.toList ((Value.bool true).resultList fn.resultTypes.size) [.lit (.bool true)] [] := by
    intro b sp hd
    rw [hr]
    exact ⟨[], [], shut_bool htb true, trodAll_mk0, rfl⟩
  have hargs : ∀ sp : Nat → Bool, (∀ x ∈ p, sp x.block = true) → DataW.TrodAll enc P W' 0 sp true fn.params.toList args.toList ds p := fun sp hsp => trodAll_stays hl hbel hread hA hlt hsp
  refine ⟨_, he, ds, [], p ++ [], [], p, [], hW', ?_, ?_, ?_, kept_of_grows hg _, fun _ => ⟨ok_one hr rfl (okWide_bool_mk htb _), _, [], ([] ++ p) ++ [], ⟨[] ++ p, [], trodAll_append (hargs _ (fun _ _ => rfl)) (hres _ _ _), ?_, rfl, ?_, ?_⟩, ?_⟩⟩
  · rw [hfn]; exact hres _ _ _
  · rw [hfn]; exact hargs _ (fun x hx => by simpa using hlt x hx)
  · rw [hfn, hvars]; rfl
  · rw [hvars]; rfl
  · intro b off hm
    have hm' : MemPlace.cell b off ∈ p := by simpa using hm
    have hb' : b < W.heap.size := hlt _ hm'
    rw [frozen_of_grows hg hb']
    exact hfz b off (by simpa using hm')
  · intro ha
    have := hnd ha
    simpa using this
  · intro x hx _
    simpa using hx
end
end Go.Ev
/-
  DERIVED: THE SHELF's CONTRACTS AT THIS DUMP, IN PLAIN WORDS (tools/lay-plain.mjs out of 'TrydLibA.lean', which tools/lay-shelf.mjs wrote): THE SAME DECLARATIONS UNDER THE SAME NAMES: 'import', 'namespace', 'open', 'def', 'theorem' AND NOTHING ELSE: no command of the shelf's: FOR A HAND-IN. Each laying: the table of numbers ('.._ren') and one theorem, a field a fact of the dump's own or the kernel's comparison; each contract: ONE APPLICATION.
-/
namespace Go.Proofs
open Go.Shelf
def Tryd.lays283_ren : Go.Shelf.Ren := ⟨fun | 283 => 159 | n => n, fun | 3 => 3 | 9 => 9 | 4 => 4 | n => n, fun | n => n⟩
theorem Tryd.lays283 : Go.Proofs.Lays.n283 Tryd.prog Tryd.lays283_ren := {
  mixed := by kernel_rfl
  f283 := Tryd.func159.trans (congrArg some (by kernel_rfl))
  t3 := Tryd.underlying3
  a3 := Tryd.isAgg3
  z3 := Tryd.sizeOf3
  v3 := Tryd.zeroValue3
  t4 := Tryd.underlying4
  a4 := Tryd.isAgg4
  z4 := Tryd.sizeOf4
  v4 := Tryd.zeroValue4
  t9 := Tryd.underlying9
  a9 := Tryd.isAgg9
  z9 := Tryd.sizeOf9
  v9 := Tryd.zeroValue9 }
open Go.Lib in
/-- internal/strconv.small: "small returns the string for an i with 0 <= i < nSmalls.": i's decimal numeral. The world is as it was. (LAID: no walk: one application.) -/
theorem Tryd.internal_strconv_small (i : Nat) (h : i < 100) (w : World) :
    Calls Tryd.prog 159 #[.int .i64 i] w fun e w' => e = .returned (.string ⟨(Lib.decDigits i).toArray⟩) ∧ w' = w := Any.internal_strconv_small Tryd.lays283 i h w
def Tryd.laysM284_ren : Go.Shelf.Ren := ⟨fun | 284 => 160 | 129 => 177 | 317 => 176 | 318 => 178 | n => n, fun | 53 => 44 | 3 => 3 | 212 => 165 | 0 => 0 | 4 => 4 | 46 => 46 | 5 => 5 | 9 => 9 | n => n, fun | 17 => 0 | n => n⟩
theorem Tryd.laysM284 : Go.Proofs.LaysM.n284 Tryd.prog Tryd.laysM284_ren := {
  mixed := by kernel_rfl
  f129 := Tryd.func177.trans (congrArg some (by kernel_rfl))
  f284 := Tryd.func160.trans (congrArg some (by kernel_rfl))
  f317 := Tryd.func176.trans (congrArg some (by kernel_rfl))
  f318 := Tryd.func178.trans (congrArg some (by kernel_rfl))
  t0 := Tryd.underlying0
  a0 := Tryd.isAgg0
  z0 := Tryd.sizeOf0
  v0 := Tryd.zeroValue0
  t3 := Tryd.underlying3
  a3 := Tryd.isAgg3
  z3 := Tryd.sizeOf3
  v3 := Tryd.zeroValue3
  t4 := Tryd.underlying4
  a4 := Tryd.isAgg4
  z4 := Tryd.sizeOf4
  v4 := Tryd.zeroValue4
  t5 := Tryd.underlying5
  a5 := Tryd.isAgg5
  z5 := Tryd.sizeOf5
  v5 := Tryd.zeroValue5
  t9 := Tryd.underlying9
  a9 := Tryd.isAgg9
  z9 := Tryd.sizeOf9
  v9 := Tryd.zeroValue9
  t46 := Tryd.underlying46
  a46 := Tryd.isAgg46
  z46 := Tryd.sizeOf46
  v46 := Tryd.zeroValue46
  t53 := Tryd.underlying44
  a53 := Tryd.isAgg44
  z53 := Tryd.sizeOf44
  v53 := Tryd.zeroValue44
  t212 := Tryd.underlying165
  a212 := Tryd.isAgg165
  z212 := Tryd.sizeOf165
  v212 := Tryd.zeroValue165
  g17 := by kernel_rfl
  i0 := by kernel_rfl
  i3 := by kernel_rfl
  i4 := by kernel_rfl
  i5 := by kernel_rfl
  i9 := by kernel_rfl
  i46 := by kernel_rfl
  i53 := by kernel_rfl
  i212 := by kernel_rfl
  m17 := by kernel_rfl }
open Go.Lib in
/-- internal/strconv.numDigits, at a d that is not 0: THE NUMBER OF d's DECIMAL DIGITS. The world is as it was. (LAID: no walk: one application.) -/
theorem Tryd.internal_strconv_numDigits (u : Nat) (h1 : 1 ≤ u) (h2 : u < 18446744073709551616) (w : World) (htab : Lib.TabIs Tryd.prog w "internal/strconv.uint64pow10" .u64 Lib.pow10Tab) :
    Calls Tryd.prog 160 #[.int .u64 u] w fun e w' => e = .returned (.int .i64 (Lib.nDigits u)) ∧ w' = w := Any.internal_strconv_numDigits Tryd.laysM284 u h1 h2 w htab
def Tryd.lays285_ren : Go.Shelf.Ren := ⟨fun | 285 => 161 | n => n, fun | 37 => 111 | 53 => 44 | 3 => 3 | 4 => 4 | 51 => 33 | 9 => 9 | 5 => 5 | 0 => 0 | n => n, fun | n => n⟩
theorem Tryd.lays285 : Go.Proofs.Lays.n285 Tryd.prog Tryd.lays285_ren := {
  mixed := by kernel_rfl
  f285 := Tryd.func161.trans (congrArg some (by kernel_rfl))
  t0 := Tryd.underlying0
  a0 := Tryd.isAgg0
  z0 := Tryd.sizeOf0
  v0 := Tryd.zeroValue0
  t3 := Tryd.underlying3
  a3 := Tryd.isAgg3
  z3 := Tryd.sizeOf3
  v3 := Tryd.zeroValue3
  t4 := Tryd.underlying4
  a4 := Tryd.isAgg4
  z4 := Tryd.sizeOf4
  v4 := Tryd.zeroValue4
  t5 := Tryd.underlying5
  a5 := Tryd.isAgg5
  z5 := Tryd.sizeOf5
  v5 := Tryd.zeroValue5
  t9 := Tryd.underlying9
  a9 := Tryd.isAgg9
  z9 := Tryd.sizeOf9
  v9 := Tryd.zeroValue9
  t37 := Tryd.underlying111
  a37 := Tryd.isAgg111
  z37 := Tryd.sizeOf111
  v37 := Tryd.zeroValue111
  t51 := Tryd.underlying33
  a51 := Tryd.isAgg33
  z51 := Tryd.sizeOf33
  v51 := Tryd.zeroValue33
  t53 := Tryd.underlying44
  a53 := Tryd.isAgg44
  z53 := Tryd.sizeOf44
  v53 := Tryd.zeroValue44 }
open Go.RowKit Go.Sort Go.Lib in
/-- internal/strconv.formatBase10: "formatBase10 formats the decimal representation of u into a. The caller is responsible for ensuring that a is big enough to hold u. If a is too big, leading zeros will be filled in as needed.": THE ROW HOLDS u's DIGITS ('FmtInv .. 0 ..': every place t holds 'dg u (len - 1 - t)'); all else is as it was but for the count of draws. (LAID: no walk: one application.) -/
theorem Tryd.internal_strconv_formatBase10 (blk off cap : Nat) (u : Nat) (d : Array UInt8) (w : World) (hH : Holds (fun (b : UInt8) => Value.int .u8 (b.toNat : Int)) w blk off d) (hu : u < 10 ^ d.size) (hu64 : u < 18446744073709551616) (hsz : d.size < 4611686018427387904) :
    Calls Tryd.prog 161 #[.slice (some ⟨blk, off, none⟩) d.size cap, .int .u64 u] w fun e w' =>
      e = .returned (.tuple #[]) ∧ ∃ (n v' : Nat) (dk : Array UInt8), w' = (putRow (fun (b : UInt8) => Value.int .u8 (b.toNat : Int)) w blk off dk).drewN n ∧ FmtInv d.size u 0 v' dk := Any.internal_strconv_formatBase10 Tryd.lays285 blk off cap u d w hH hu hu64 hsz
def Tryd.laysM171_ren : Go.Shelf.Ren := ⟨fun | 171 => 96 | 243 => 139 | 246 => 158 | 283 => 159 | 284 => 160 | 285 => 161 | 286 => 162 | 129 => 177 | 317 => 176 | 318 => 178 | 319 => 179 | 320 => 143 | 337 => 164 | 338 => 165 | n => n, fun | 3 => 3 | 9 => 9 | 2 => 2 | 4 => 4 | 171 => 152 | 0 => 0 | 53 => 44 | 37 => 111 | 5 => 5 | 173 => 154 | 212 => 165 | 51 => 33 | 20 => 20 | 213 => 166 | 46 => 46 | 232 => 167 | 233 => 168 | n => n, fun | 17 => 0 | 18 => 1 | 19 => 2 | n => n⟩
theorem Tryd.laysM171 : Go.Proofs.LaysM.n171 Tryd.prog Tryd.laysM171_ren := {
  mixed := by kernel_rfl
  f129 := Tryd.func177.trans (congrArg some (by kernel_rfl))
  f171 := Tryd.func96.trans (congrArg some (by kernel_rfl))
  f243 := Tryd.func139.trans (congrArg some (by kernel_rfl))
  f246 := Tryd.func158.trans (congrArg some (by kernel_rfl))
  f283 := Tryd.func159.trans (congrArg some (by kernel_rfl))
  f284 := Tryd.func160.trans (congrArg some (by kernel_rfl))
  f285 := Tryd.func161.trans (congrArg some (by kernel_rfl))
  f286 := Tryd.func162.trans (congrArg some (by kernel_rfl))
  f317 := Tryd.func176.trans (congrArg some (by kernel_rfl))
  f318 := Tryd.func178.trans (congrArg some (by kernel_rfl))
  f319 := Tryd.func179.trans (congrArg some (by kernel_rfl))
  f320 := Tryd.func143.trans (congrArg some (by kernel_rfl))
  f337 := Tryd.func164.trans (congrArg some (by kernel_rfl))
  f338 := Tryd.func165.trans (congrArg some (by kernel_rfl))
  t0 := Tryd.underlying0
  a0 := Tryd.isAgg0
  z0 := Tryd.sizeOf0
  v0 := Tryd.zeroValue0
  t2 := Tryd.underlying2
  a2 := Tryd.isAgg2
  z2 := Tryd.sizeOf2
  v2 := Tryd.zeroValue2
  t3 := Tryd.underlying3
  a3 := Tryd.isAgg3
  z3 := Tryd.sizeOf3
  v3 := Tryd.zeroValue3
  t4 := Tryd.underlying4
  a4 := Tryd.isAgg4
  z4 := Tryd.sizeOf4
  v4 := Tryd.zeroValue4
  t5 := Tryd.underlying5
  a5 := Tryd.isAgg5
  z5 := Tryd.sizeOf5
  v5 := Tryd.zeroValue5
  t9 := Tryd.underlying9
  a9 := Tryd.isAgg9
  z9 := Tryd.sizeOf9
  v9 := Tryd.zeroValue9
  t20 := Tryd.underlying20
  a20 := Tryd.isAgg20
  z20 := Tryd.sizeOf20
  v20 := Tryd.zeroValue20
  t37 := Tryd.underlying111
  a37 := Tryd.isAgg111
  z37 := Tryd.sizeOf111
  v37 := Tryd.zeroValue111
  t46 := Tryd.underlying46
  a46 := Tryd.isAgg46
  z46 := Tryd.sizeOf46
  v46 := Tryd.zeroValue46
  t51 := Tryd.underlying33
  a51 := Tryd.isAgg33
  z51 := Tryd.sizeOf33
  v51 := Tryd.zeroValue33
  t53 := Tryd.underlying44
  a53 := Tryd.isAgg44
  z53 := Tryd.sizeOf44
  v53 := Tryd.zeroValue44
  t171 := Tryd.underlying152
  a171 := Tryd.isAgg152
  z171 := Tryd.sizeOf152
  v171 := Tryd.zeroValue152
  t173 := Tryd.underlying154
  a173 := Tryd.isAgg154
  z173 := Tryd.sizeOf154
  v173 := Tryd.zeroValue154
  t212 := Tryd.underlying165
  a212 := Tryd.isAgg165
  z212 := Tryd.sizeOf165
  v212 := Tryd.zeroValue165
  t213 := Tryd.underlying166
  a213 := Tryd.isAgg166
  z213 := Tryd.sizeOf166
  t232 := Tryd.underlying167
  a232 := Tryd.isAgg167
  z232 := Tryd.sizeOf167
  v232 := Tryd.zeroValue167
  t233 := Tryd.underlying168
  a233 := Tryd.isAgg168
  z233 := Tryd.sizeOf168
  v233 := Tryd.zeroValue168
  g17 := by kernel_rfl
  g18 := by kernel_rfl
  g19 := by kernel_rfl
  i0 := by kernel_rfl
  i2 := by kernel_rfl
  i3 := by kernel_rfl
  i4 := by kernel_rfl
  i5 := by kernel_rfl
  i9 := by kernel_rfl
  i20 := by kernel_rfl
  i37 := by kernel_rfl
  i46 := by kernel_rfl
  i51 := by kernel_rfl
  i53 := by kernel_rfl
  i171 := by kernel_rfl
  i173 := by kernel_rfl
  i212 := by kernel_rfl
  i232 := by kernel_rfl
  i233 := by kernel_rfl
  m17 := by kernel_rfl
  m18 := by kernel_rfl
  m19 := by kernel_rfl }
open Go.RowKit Go.Sort Go.Lib in
/-- strconv.Itoa: "Itoa is equivalent to FormatInt(int64(i), 10).": i's DECIMAL NUMERAL ('Lib.itoa': a '-' where i is negative, then the digits), FOR EVERY int. The world behind the call: the world before it, new blocks behind the heap (the library's 'var a [24]byte'), draws. (LAID: no walk: one application.) -/
theorem Tryd.strconv_Itoa (n : Int) (h0 : -9223372036854775808 ≤ n) (h1 : n ≤ 9223372036854775807) (w : World) (htab : Lib.TabIs Tryd.prog w "internal/strconv.uint64pow10" .u64 Lib.pow10Tab) :
    Calls Tryd.prog 96 #[.int .i64 n] w fun e w' => e = .returned (.string ⟨(Lib.itoa n).toArray⟩) ∧ ∃ k os, w' = grow (w.drewN k) os := Any.strconv_Itoa Tryd.laysM171 n h0 h1 w htab
end Go.Proofs
/- Numerals: the library's contract, as one of ours. -/
set_option linter.unusedVariables false
set_option linter.unusedSimpArgs false
namespace Go.Ev.D
open Go.Proofs
theorem pow_tab {S : Stab} {w : World} (h : Tab S w) : Lib.TabIs Tryd.prog w "internal/strconv.uint64pow10" .u64 Lib.pow10Tab := by
  have h0 := fun o => (h.1 (0, Lib.pow10Tab.map fun z => Value.int .u64 z) (List.mem_cons_self ..) o).2
  have hg : Tryd.prog.globalNamed "internal/strconv.uint64pow10" = some 0 := by kernel_rfl
  unfold Lib.TabIs World.var?
  rw [hg]
  simp only [Option.bind_some]
  have h1 := h0 0
  have e1 : (Lib.pow10Tab.map fun z => Value.int IntKind.u64 z)[0]? = some (.int .u64 1) := by simp [Lib.pow10Tab]
  simp only at h0 h1
  rw [e1] at h1
  cases hb : w.heap[0]? with
  | none => simp [World.cell?, hb] at h1
  | some o =>
    cases o with
    | cells cs t fr =>
      simp only
      congr 1
      apply Array.ext_getElem?
      intro i
      have := h0 i
      simp only [World.cell?, hb] at this
      simpa using this
    | _ => simp [World.cell?, hb] at h1
def itoaC : Ctr := { args := [.int .i64], res := [.str], pre := none, fn := fun (x : Int) => itoaF x }
theorem itoa_ok : CtrOK Tryd.prog 96 itoaC := by
  refine ⟨⟨_, fnOf_eq (by kernel_rfl), by kernel_rfl, by kernel_rfl⟩, ?_⟩
  intro w S us (x : Int) hS hT henc _
  obtain ⟨cs, h1, rfl⟩ := henc
  obtain ⟨rfl, h2⟩ : cs = [.int .i64 x] ∧ IntKind.i64.has x := h1
  rw [has_i64] at h2
  refine (Tryd.strconv_Itoa x h2.1 h2.2 w (pow_tab hT)).mono ?_
  rintro e w' ⟨rfl, k, os, rfl⟩
  refine ⟨_, rfl, ⟨rfl, rfl, rfl, by simp [Go.Sort.grow], fun k hk => by simp [Go.Sort.grow, Array.getElem?_append_left hk]⟩, fun _ _ => False, fun _ _ h => h.elim, [_], ⟨[.string ⟨⟨itoaF x⟩⟩], ⟨rfl, by have := itoaF_len x; show (itoaF x).length ≤ maxStr; unfold maxStr; omega⟩, rfl⟩, ?_⟩
  rw [itoa_eq h2.1 h2.2]
  rfl
end Go.Ev.D
/- FormatUint at base ten: the code of the library, beside the evaluator. -/
set_option linter.unusedVariables false
set_option linter.unusedSimpArgs false
namespace Go.Ev.D
open Go.Proofs Go.Conc Go.Sort Go.Lib
theorem natT_dec {u : Nat} (h : u < 18446744073709551616) : Lib.decDigits u = natT u := decDigits_digN 20 u (by omega) (by omega)
theorem natT_len (u : Nat) : (natT u).length ≤ 20 := digN_len 20 u
def smallC : Ctr := { args := [.int .i64], res := [.str], pre := some (fun (x : Int) => 0 ≤ x ∧ x < 100), fn := fun (x : Int) => natT x.toNat }
theorem small_ok : CtrOK Tryd.prog 159 smallC := by
  refine ⟨⟨_, fnOf_eq (by kernel_rfl), by kernel_rfl, by kernel_rfl⟩, ?_⟩
  intro w S us (x : Int) hS hT henc hpre
  obtain ⟨h0, h1⟩ : 0 ≤ x ∧ x < 100 := hpre _ rfl
  obtain ⟨cs, h2, rfl⟩ := henc
  obtain ⟨rfl, h3⟩ : cs = [.int .i64 x] ∧ IntKind.i64.has x := h2
  obtain ⟨i, rfl⟩ := Int.eq_ofNat_of_zero_le h0
  refine (Tryd.internal_strconv_small i (by omega) w).mono ?_
  rintro e w' ⟨rfl, rfl⟩
  refine ⟨_, rfl, Grows.refl _, fun _ _ => False, fun _ _ h => h.elim, [_], ⟨[.string ⟨⟨natT i⟩⟩], ⟨rfl, by have := natT_len i; show (natT i).length ≤ maxStr; unfold maxStr; omega⟩, rfl⟩, ?_⟩
  rw [natT_dec (by omega)]
  rfl
def ndC : Ctr := { args := [.int .u64], res := [.int .i64], pre := some (fun (x : Int) => 1 ≤ x), fn := fun (x : Int) => (Lib.nDigits x.toNat : Int) }
theorem nd_small {u : Nat} (h1 : 1 ≤ u) (h2 : u < 18446744073709551616) : Lib.nDigits u ≤ 20 := by
  have := Lib.numDigits_eq u h1 h2
  split at this <;> omega
theorem nd_ok : CtrOK Tryd.prog 160 ndC := by
  refine ⟨⟨_, fnOf_eq (by kernel_rfl), by kernel_rfl, by kernel_rfl⟩, ?_⟩
  intro w S us (x : Int) hS hT henc hpre
  have h1 : 1 ≤ x := hpre _ rfl
  obtain ⟨cs, h2, rfl⟩ := henc
  obtain ⟨rfl, h3⟩ : cs = [.int .u64 x] ∧ IntKind.u64.has x := h2
  rw [has_u64] at h3
  obtain ⟨u, rfl⟩ := Int.eq_ofNat_of_zero_le h3.1
  have h4 := nd_small (u := u) (by omega) (by omega)
  refine (Tryd.internal_strconv_numDigits u (by omega) (by omega) w (pow_tab hT)).mono ?_
  rintro e w' ⟨rfl, rfl⟩
  exact ⟨_, rfl, Grows.refl _, fun _ _ => False, fun _ _ h => h.elim, [_], ⟨[.int .i64 (Lib.nDigits u)], ⟨rfl, by show IntKind.i64.has (Lib.nDigits u : Int); rw [has_i64]; omega⟩, rfl⟩, rfl⟩
noncomputable def fuC : Code := rThen (rNth (bodyOf (fnOf Tryd.prog 140)) 2)
noncomputable def fuB (i : Nat) : Code := rNth (bodyOf (fnOf Tryd.prog 140)) i
noncomputable def fuI (i : Nat) : Code := rNth fuC i
def fuG : List (Nat × Ctr) := [(159, smallC), (160, ndC)]
theorem fuG_ok : CtrsOK Tryd.prog (fun f => lk f fuG) := ctrs_cons small_ok (ctrs_cons nd_ok ctrs_nil)
@[reducible] def fuT1 : List (Nat × Sh) := [(0, .val (.int .u64)), (10, .val .bool)]
@[reducible] def fuT0 : List (Nat × Sh) := [(0, .val (.int .u64))]
@[reducible] def fuT6 : List (Nat × Sh) := [(0, .val (.int .u64)), (6, .val (.int .i64))]
@[reducible] def fuT18 : List (Nat × Sh) := [(0, .val (.int .u64)), (6, .val (.int .i64)), (18, .val (.int .i64))]
@[reducible] def fuT20 : List (Nat × Sh) := [(6, .val (.int .i64)), (20, .val (.int .u64))]
@[reducible] def fuT22 : List (Nat × Sh) := [(22, .val (.int .i64))]
theorem fu0_tree : (fun x : Int × Int => pieceT (mkC tys [] []) (fnOf Tryd.prog 140) [.str] fuT1 [] [fuB 0, fuB 1] { tmps := number 0 (resL [.int .u64, .int .i64] x), boxes := [] }) =
  (fun x => Tree.leaf (none, some ((x.1, x.2 == (10 : Int), ()), ()))) := by kernel_rfl
theorem fu2_tree : (fun x : (Int × Unit) × Unit => pieceT (mkC tys fuG []) (fnOf Tryd.prog 140) [.str] fuT0 [] [fuI 0, fuI 1] (mkS fuT0 [] x)) =
  (fun x =>
    Tree.br (decide (x.1.1 < (100 : Int)))
      (Tree.need ((0 : Int) ≤ IntKind.wrap IntKind.i64 x.1.1 ∧ IntKind.wrap IntKind.i64 x.1.1 < (100 : Int)) (Tree.leaf (some (natT (Int.toNat (IntKind.wrap IntKind.i64 x.1.1))), none)))
      (Tree.leaf (none, some ((x.1.1, ()), ())))) := by kernel_rfl
theorem fu5_tree : (fun x : (Int × Unit) × Unit => pieceT (mkC tys fuG []) (fnOf Tryd.prog 140) [.str] fuT6 [] [fuI 3] (mkS fuT0 [] x)) =
  (fun x => Tree.need ((1 : Int) ≤ x.1.1) (Tree.leaf (none, some ((x.1.1, (↑(nDigits (Int.toNat x.1.1)) : Int), ()), ())))) := by kernel_rfl
theorem fu6_tree : (fun x : (Int × Int × Unit) × Unit => opsT (mkC tys [] []) fuT18 [] [rOp (fuI 4) 0] (mkS fuT6 [] x)) =
  (fun x => Tree.leaf (some ((x.1.1, x.1.2.1, x.1.2.1, ()), ()))) := by kernel_rfl
theorem fu7_tree : (fun x : (Int × Int × Int × Unit) × Unit => opsT (mkC tys [] []) fuT20 [] [rOp (fuI 4) 2] (mkS fuT18 [] x)) =
  (fun x => Tree.leaf (some ((x.1.2.1, x.1.1, ()), ()))) := by kernel_rfl
theorem fu8_tree : (fun x : (Int × Int × Unit) × Unit => opsT (mkC tys [] []) fuT22 [] [rOp (fuI 5) 0] (mkS fuT20 [] x)) =
  (fun x => Tree.leaf (some ((x.1.1, ()), ()))) := by kernel_rfl
theorem fu9_tree : (fun x : (List UInt8 × Unit) × Unit => opsT (mkC tys [] []) [(4, .val .str)] [] [rOp (fuI 5) 3] (mkS [(24, .val .str)] [] x)) =
  (fun x => Tree.leaf (some ((x.1.1, ()), ()))) := by kernel_rfl
end Go.Ev.D
/- FormatUint at base ten keeps its contract. -/
set_option linter.unusedVariables false
set_option linter.unusedSimpArgs false
namespace Go.Ev.D
open Go.Proofs Go.Conc Go.Sort Go.Lib
theorem fu_all : seqs (bodyOf (fnOf Tryd.prog 140)) = [fuB 0, fuB 1, fuB 2, fuB 3, fuB 4, fuB 5] := by kernel_rfl
theorem fu_2 : fuB 2 = .cond (.tmp 10) fuC .skip := by kernel_rfl
theorem fu_in : seqs fuC = [fuI 0, fuI 1, fuI 2, fuI 3, fuI 4, fuI 5, fuI 6] := by kernel_rfl
theorem fu_i2 : fuI 2 = .region 4 (rOps (fuI 2)) false := by kernel_rfl
theorem fu_i4 : fuI 4 = .region 6 (rOps (fuI 4)) false := by kernel_rfl
theorem fu_i5 : fuI 5 = .region 7 (rOps (fuI 5)) false := by kernel_rfl
theorem fu_i6 : fuI 6 = .ret := by kernel_rfl
theorem fu_n : (fnOf Tryd.prog 140).ntmps = 32 := by kernel_rfl
theorem fb_body : (fnOf Tryd.prog 161).body.isNone = false := by kernel_rfl
theorem fb_name : ((fnOf Tryd.prog 161).name == "runtime.NumGoroutine") = false := by kernel_rfl
theorem fb_fn : Tryd.prog.funcs[161]? = some (fnOf Tryd.prog 161) := fnOf_eq (by kernel_rfl)
theorem fu_arr : tys 152 = some ⟨.arr 24 (.int .u8), 0, 24, 0⟩ := by kernel_rfl
theorem fu_len : Tryd.prog.arrayLen 152 = 24 := by kernel_rfl
theorem fu_elem : Tryd.prog.elem 152 = 5 := by kernel_rfl
theorem fu_under : Tryd.prog.underlying 152 = some (.array (Tryd.prog.arrayLen 152) (Tryd.prog.elem 152)) := by kernel_rfl
theorem fu_zero : (zeroCells (.arr 24 (.int .u8))).toArray = Array.replicate 24 (Value.int .u8 0) := by kernel_rfl
attribute [local irreducible] fnOf bodyOf
abbrev encB : UInt8 → Value := fun (b : UInt8) => Value.int .u8 (b.toNat : Int)
theorem fu_slice {c nd : Nat} (h : nd ≤ 24) (w : World) : (Instr.sliceAt 152 (.pointer (some ⟨c, 0, none⟩)) none (some (.int .i64 (nd : Int))) none).run Tryd.prog w = .ok (.slice (some ⟨c, 0, none⟩) nd 24) w := by
  rw [run_sliceAt_array_h (t := 152) (a := ⟨c, 0, none⟩) (w := w) fu_under .i64 (nd : Int) (by omega) (by rw [fu_len]; omega), fu_elem]
  simp [Tryd.sizeOf5, slicedAt, fu_len, Addr.add_lit]
theorem put_heap (w : World) (c n : Nat) (d : Array UInt8) (k : Nat) (h : k ≠ c) : ((putRow encB w c 0 d).drewN n).heap[k]? = w.heap[k]? := by
  show (putRow encB w c 0 d).heap[k]? = _
  unfold putRow mapBlock
  simp only [Array.getElem?_modify]
  rw [if_neg (fun e => h e.symm)]
def fuintC : Ctr := { args := [.int .u64, .int .i64], res := [.str], pre := some (fun (x : Int × Int) => x.2 = 10), fn := fun (x : Int × Int) => natT x.1.toNat }
theorem fuint_ok : CtrOK Tryd.prog 140 fuintC :=
  ctr_of_to (C := mkC tys fuG []) tysOK (by kernel_rfl) (by kernel_rfl) (by kernel_rfl) (fun x => by rw [fu_n]; show 2 ≤ 32; omega) fun R0 b (x : Int × Int) a0 hbk hw hp h0 hsz0 hd0 => by
    obtain ⟨n, base⟩ := x
    have hb : base = 10 := hp _ rfl
    subst hb
    have hn : IntKind.u64.has n := hw.1
    rw [has_u64] at hn
    obtain ⟨u, rfl⟩ := Int.eq_ofNat_of_zero_le hn.1
    have hu : u < 18446744073709551616 := by omega
    show LTo Tryd.prog b _ (finQ (mkC tys fuG []) (fnOf Tryd.prog 140) [.str] R0 (natT u)) a0 R0.w0
    rw [fu_n] at hsz0
    rw [fu_all]
    have k0 := Kd.start (W := fun _ => none) (n := 32) (sl := []) h0 hsz0 hd0 (fun _ h => by cases h)
    show LTo Tryd.prog b ([fuB 0, fuB 1] ++ [fuB 2, fuB 3, fuB 4, fuB 5]) _ a0 R0.w0
    refine k0.piece (C := mkC tys [] []) tysOK ctrs_nil mixed (fn := fnOf Tryd.prog 140) (res := [.str]) (ts := fuT1) (bs := []) (G := fun x => x = (none, some (((u : Int), true, ()), ()))) (by kernel_rfl) (by kernel_rfl) ?_ ?_ ?_ ?_
    · show (pieceT (mkC tys [] []) (fnOf Tryd.prog 140) [.str] fuT1 [] [fuB 0, fuB 1] { tmps := number 0 (resL [.int .u64, .int .i64] ((u : Int), (10 : Int))), boxes := [] }).holds _
      rw [congrFun fu0_tree ((u : Int), (10 : Int))]; rfl
    · intro y s' a' w' hy; cases hy
    · intro x a1 w1 hx k1
      simp only [Prod.mk.injEq, Option.some.injEq, true_and] at hx
      subst hx
      refine LTo.cons ?_
      rw [fu_2]
      refine CodeTo.cond (t := true) (k1.old.bool rfl) ?_
      rw [if_pos rfl]
      have k2 := k1.restr (L := { prom := [], keep := fuT0.map (·.1), boxes := [], sum := fun _ => .stuck }) (s' := mkS fuT0 [] (((u : Int), ()), ())) (by kernel_rfl)
      refine CodeTo.seqs ?_
      rw [fu_in]
      show LTo Tryd.prog b ([fuI 0, fuI 1] ++ [fuI 2, fuI 3, fuI 4, fuI 5, fuI 6]) _ a1 w1
      refine k2.piece (C := mkC tys fuG []) tysOK fuG_ok mixed (fn := fnOf Tryd.prog 140) (res := [.str]) (ts := fuT0) (bs := []) (G := fun x => x = (some (natT u), none) ∨ x = (none, some (((u : Int), ()), ())) ∧ 100 ≤ u) (by kernel_rfl) (by kernel_rfl) ?_ ?_ ?_ ?_
      · rw [congrFun fu2_tree (((u : Int), ()), ())]
        simp only [Tree.holds]
        have e : ∀ h : u < 100, IntKind.wrap IntKind.i64 (u : Int) = u := fun h => i64_id (by omega) (by omega)
        refine ⟨fun h => ?_, fun h => .inr ⟨trivial, ?_⟩⟩
        · have h' : (u : Int) < 100 := of_decide_eq_true h
          rw [e (by omega)]
          exact ⟨⟨by omega, by omega⟩, .inl rfl⟩
        · have h' : ¬ (u : Int) < 100 := of_decide_eq_false h
          omega
      · intro y s' a' w' hy j1 j2 j3
        rcases hy with hy | ⟨hy, _⟩
        · simp only [Prod.mk.injEq, Option.some.injEq, and_true] at hy
          rw [hy] at j3
          exact ⟨.inr rfl, j2, s', j1, j3⟩
        · cases hy
      · intro x a2 w2 hx k3
        rcases hx with hx | ⟨hx, hu100⟩
        · cases hx
        simp only [Prod.mk.injEq, Option.some.injEq, true_and] at hx
        subst hx
        have hnd := nd_small (u := u) (by omega) hu
        refine LTo.cons ?_
        rw [fu_i2]
        refine CodeTo.region ?_
        rw [show List.range (rOps (fuI 2)).size = [0] by kernel_rfl]
        refine RegTo.value (o := rOp (fuI 2) 0) (v := .pointer (some ⟨w2.heap.size, 0, none⟩)) (w' := w2.alloc (.cells (Array.replicate 24 (Value.int .u8 0)) 152)) (by kernel_rfl) (by kernel_rfl) ?_ ?_
        · have := alloc_run (P := Tryd.prog) (τ := tys) tysOK fu_arr w2
          rw [fu_zero] at this
          unfold execOp
          rw [show (rOp (fuI 2) 0).op = .alloc 152 by kernel_rfl]
          simp [this]
        rw [show (rOp (fuI 2) 0).dst = some 5 by kernel_rfl]
        have hnew := heap_alloc_new w2 (.cells (Array.replicate 24 (Value.int .u8 0)) 152)
        have k4 := (k3.world (K' := fun k => k = w2.heap.size) (W' := fun _ => some (.cells (Array.replicate 24 (Value.int .u8 0)) 152 (0, 0))) (w' := w2.alloc (.cells (Array.replicate 24 (Value.int .u8 0)) 152)) (fun k hk => .inr (by omega)) (fun k hk => by rw [hk]; exact (Array.getElem?_eq_some_iff.1 hnew).1) (fun k hk => by rw [hk]; exact hnew) rfl rfl rfl (by simp) (fun k hk _ => (Grows.alloc w2 _).block k hk)).keep (k := 5) (v := .pointer (some ⟨w2.heap.size, 0, none⟩)) rfl (by omega) (by simp)
        generalize a2.put (some 5) (.pointer (some ⟨w2.heap.size, 0, none⟩)) = a3 at k4 ⊢
        generalize w2.alloc (.cells (Array.replicate 24 (Value.int .u8 0)) 152) = w3 at k4 ⊢
        generalize w2.heap.size = c at k4
        refine RegTo.nil ?_
        show LTo Tryd.prog b ([fuI 3] ++ [fuI 4, fuI 5, fuI 6]) _ a3 w3
        refine k4.piece (C := mkC tys fuG []) tysOK fuG_ok mixed (fn := fnOf Tryd.prog 140) (res := [.str]) (ts := fuT6) (bs := []) (G := fun x => x = (none, some (((u : Int), (Lib.nDigits u : Int), ()), ()))) (by kernel_rfl) (by kernel_rfl) ?_ ?_ ?_ ?_
        · rw [congrFun fu5_tree (((u : Int), ()), ())]
          exact ⟨(by omega : (1 : Int) ≤ u), rfl⟩
        · intro y s' a' w' hy; cases hy
        · intro x a4 w4 hx k5
          simp only [Prod.mk.injEq, Option.some.injEq, true_and] at hx
          subst hx
          refine LTo.cons ?_
          rw [fu_i4]
          refine CodeTo.region ?_
          rw [show List.range (rOps (fuI 4)).size = [0, 1, 2, 3] by kernel_rfl]
          show RegTo Tryd.prog b _ ([0] ++ [1, 2, 3]) _ _ _
          refine k5.opsL (C := mkC tys [] []) tysOK ctrs_nil (ts := fuT18) (bs := []) (G := fun x => x = some (((u : Int), (Lib.nDigits u : Int), (Lib.nDigits u : Int), ()), ())) [0] (by kernel_rfl) (by kernel_rfl) ?_ ?_ (fun h => by cases h)
          · show (opsT (mkC tys [] []) fuT18 [] [rOp (fuI 4) 0] (mkS fuT6 [] (((u : Int), (Lib.nDigits u : Int), ()), ()))).holds _
            rw [congrFun fu6_tree _]; rfl
          · intro x a5 w5 hx k6
            simp only [Option.some.injEq] at hx
            subst hx
            have h5 : a5.eval (.tmp 5) = .pointer (some ⟨c, 0, none⟩) := k6.slots (5, .pointer (some ⟨c, 0, none⟩)) (by simp)
            have h18 : a5.eval (.tmp 18) = .int .i64 (Lib.nDigits u) := known_i64 k6.old rfl
            refine RegTo.value (o := rOp (fuI 4) 1) (v := .slice (some ⟨c, 0, none⟩) (Lib.nDigits u) 24) (w' := w5) (by kernel_rfl) (by kernel_rfl) ?_ ?_
            · unfold execOp
              rw [show (rOp (fuI 4) 1).op = .slice 152 (.tmp 5) none (some (.tmp 18)) none by kernel_rfl]
              simp [h5, h18, fu_slice (by omega : Lib.nDigits u ≤ 24) w5]
            rw [show (rOp (fuI 4) 1).dst = some 19 by kernel_rfl]
            have k7 := k6.keep (k := 19) (v := .slice (some ⟨c, 0, none⟩) (Lib.nDigits u) 24) rfl (by omega) (by simp)
            generalize a5.put (some 19) (.slice (some ⟨c, 0, none⟩) (Lib.nDigits u) 24) = a6 at k7 ⊢
            show RegTo Tryd.prog b _ ([2] ++ [3]) _ _ _
            refine k7.opsL (C := mkC tys [] []) tysOK ctrs_nil (ts := fuT20) (bs := []) (G := fun x => x = some (((Lib.nDigits u : Int), (u : Int), ()), ())) [2] (by kernel_rfl) (by kernel_rfl) ?_ ?_ (fun h => by cases h)
            · show (opsT (mkC tys [] []) fuT20 [] [rOp (fuI 4) 2] (mkS fuT18 [] (((u : Int), (Lib.nDigits u : Int), (Lib.nDigits u : Int), ()), ()))).holds _
              rw [congrFun fu7_tree _]; rfl
            · intro x a7 w7 hx k8
              simp only [Option.some.injEq] at hx
              subst hx
              have h19 : a7.eval (.tmp 19) = .slice (some ⟨c, 0, none⟩) (Lib.nDigits u) 24 := k8.slots (19, .slice (some ⟨c, 0, none⟩) (Lib.nDigits u) 24) (by simp)
              have h20 : a7.eval (.tmp 20) = .int .u64 (u : Int) := known_u64 k8.old rfl
              have hc7 := k8.heap (k := c) rfl
              have hH : Holds encB w7 c 0 (Array.replicate (Lib.nDigits u) (0 : UInt8)) := fun j hj => by
                have hj' : j < Lib.nDigits u := by simpa using hj
                refine ⟨?_, by simp [World.frozen?, hc7]⟩
                rw [getElem!_pos _ j hj]
                simp [World.cell?, hc7, Array.getElem?_replicate, show j < 24 by omega]
              have hcall := Tryd.internal_strconv_formatBase10 c 0 24 u (Array.replicate (Lib.nDigits u) 0) w7 hH (by rw [Array.size_replicate]; exact Lib.lt_pow_nDigits u) hu (by rw [Array.size_replicate]; omega)
              rw [Array.size_replicate] at hcall
              refine k8.call (o := rOp (fuI 4) 3) (x := .func 161) (ar := #[.tmp 19, .tmp 20]) (ts := #[111, 44]) (f := 161) (caps := #[]) (args := #[.slice (some ⟨c, 0, none⟩) (Lib.nDigits u) 24, .int .u64 u]) (by kernel_rfl) (by kernel_rfl) (by kernel_rfl) rfl (by simp [h19, h20]) fb_fn fb_body fb_name hcall ?_
              rintro e w8 ⟨rfl, k, v', dk, rfl, hF⟩
              refine ⟨_, fun k => k = c, fun i => ((putRow encB w7 c 0 dk).drewN k).heap[i]?, rfl, fun i hi => .inl hi, fun i hi => ?_, fun _ _ => rfl, rfl, rfl, rfl, ?_, fun i hi hne => put_heap w7 c k dk i hne, fun k9 => ?_⟩
              · rw [hi]
                show c < ((putRow encB w7 c 0 dk).drewN k).heap.size
                have := (Array.getElem?_eq_some_iff.1 hc7).1
                simpa using this
              · simp
              have hcv : ∀ j (hj : j < (natT u).length), ((putRow encB w7 c 0 dk).drewN k).cell? ⟨c, 0 + j, none⟩ = some (.int .u8 ((natT u)[j].toNat : Int)) := by
                rw [← natT_dec hu]
                intro j hj
                rw [Lib.row_is_numeral hF j hj, World.cell?_drewN]
                exact cell?_putRow encB _ c 0 _ dk hH (by rw [hF.size, Array.size_replicate]) j (by rw [hF.size]; rw [Lib.decDigits_length] at hj; exact hj)
              generalize (putRow encB w7 c 0 dk).drewN k = w8 at k9 hcv ⊢
              rw [show (rOp (fuI 4) 3).dst = some 21 by kernel_rfl]
              have k10 := (k9.keep (k := 21) (v := .tuple #[]) rfl (by omega) (by simp)).less (sl' := [(5, .pointer (some ⟨c, 0, none⟩))]) (fun p hp => by simp at hp ⊢; simp [hp])
              generalize a7.put (some 21) (.tuple #[]) = a8 at k10 ⊢
              refine RegTo.nil ?_
              refine LTo.cons ?_
              rw [fu_i5]
              refine CodeTo.region ?_
              rw [show List.range (rOps (fuI 5)).size = [0, 1, 2, 3] by kernel_rfl]
              show RegTo Tryd.prog b _ ([0] ++ [1, 2, 3]) _ _ _
              refine k10.opsL (C := mkC tys [] []) tysOK ctrs_nil (ts := fuT22) (bs := []) (G := fun x => x = some (((Lib.nDigits u : Int), ()), ())) [0] (by kernel_rfl) (by kernel_rfl) ?_ ?_ (fun h => by cases h)
              · show (opsT (mkC tys [] []) fuT22 [] [rOp (fuI 5) 0] (mkS fuT20 [] (((Lib.nDigits u : Int), (u : Int), ()), ()))).holds _
                rw [congrFun fu8_tree _]; rfl
              · intro x a9 w9 hx k11
                simp only [Option.some.injEq] at hx
                subst hx
                have h5' : a9.eval (.tmp 5) = .pointer (some ⟨c, 0, none⟩) := k11.slots (5, .pointer (some ⟨c, 0, none⟩)) (by simp)
                have h22 : a9.eval (.tmp 22) = .int .i64 (Lib.nDigits u) := known_i64 k11.old rfl
                refine RegTo.value (o := rOp (fuI 5) 1) (v := .slice (some ⟨c, 0, none⟩) (Lib.nDigits u) 24) (w' := w9) (by kernel_rfl) (by kernel_rfl) ?_ ?_
                · unfold execOp
                  rw [show (rOp (fuI 5) 1).op = .slice 152 (.tmp 5) none (some (.tmp 22)) none by kernel_rfl]
                  simp [h5', h22, fu_slice (by omega : Lib.nDigits u ≤ 24) w9]
                rw [show (rOp (fuI 5) 1).dst = some 23 by kernel_rfl]
                have k12 := k11.keep (k := 23) (v := .slice (some ⟨c, 0, none⟩) (Lib.nDigits u) 24) rfl (by omega) (by simp)
                generalize a9.put (some 23) (.slice (some ⟨c, 0, none⟩) (Lib.nDigits u) 24) = a10 at k12 ⊢
                have h23 : a10.eval (.tmp 23) = .slice (some ⟨c, 0, none⟩) (Lib.nDigits u) 24 := k12.slots (23, .slice (some ⟨c, 0, none⟩) (Lib.nDigits u) 24) (by simp)
                have hle : Lib.nDigits u = (natT u).length := by rw [← natT_dec hu, Lib.decDigits_length]
                refine RegTo.value (o := rOp (fuI 5) 2) (v := .string ⟨⟨natT u⟩⟩) (w' := w9) (by kernel_rfl) (by kernel_rfl) ?_ ?_
                · have := run_convert_bytes_back (P := Tryd.prog) w9 111 9 5 ⟨c, 0, none⟩ 24 (natT u) Tryd.underlying111 Tryd.underlying5 Tryd.underlying9 (fun j hj => by
                    rw [Lib.add_plain, cell_of_heap (k11.heap (k := c) rfl)]
                    exact hcv j hj)
                  rw [← hle] at this
                  unfold execOp
                  rw [show (rOp (fuI 5) 2).op = .convert 111 9 (.tmp 23) by kernel_rfl]
                  simp [h23, this]
                rw [show (rOp (fuI 5) 2).dst = some 24 by kernel_rfl]
                have hmax : (natT u).length ≤ maxStr := by have := natT_len u; unfold maxStr; omega
                have k13 := ((k12.known (k := 24) (v := .string ⟨⟨natT u⟩⟩) (av := .val .str (natT u)) (fun M => ⟨_, ⟨rfl, hmax⟩, rfl⟩) (by omega) (by simp)).less (sl' := []) (fun p hp => by cases hp)).restr (L := { prom := [], keep := [24], boxes := [], sum := fun _ => .stuck }) (s' := mkS [(24, .val .str)] [] ((natT u, ()), ())) (by kernel_rfl)
                generalize a10.put (some 24) (.string ⟨⟨natT u⟩⟩) = a11 at k13 ⊢
                show RegTo Tryd.prog b _ ([3] ++ []) _ _ _
                refine k13.opsL (C := mkC tys [] []) tysOK ctrs_nil (ts := [(4, .val .str)]) (bs := []) (G := fun x => x = some ((natT u, ()), ())) [3] (by kernel_rfl) (by kernel_rfl) ?_ ?_ (fun h => by cases h)
                · show (opsT (mkC tys [] []) [(4, .val .str)] [] [rOp (fuI 5) 3] (mkS [(24, .val .str)] [] ((natT u, ()), ()))).holds _
                  rw [congrFun fu9_tree _]; rfl
                · intro x a12 w12 hx k14
                  simp only [Option.some.injEq] at hx
                  subst hx
                  refine RegTo.nil ?_
                  refine LTo.cons ?_
                  rw [fu_i6]
                  refine then_id (CodeTo.of_wp (wp_ret ?_))
                  refine ⟨.inr rfl, k14.defers, _, k14.old, ?_⟩
                  have : evRes (mkC tys fuG []) (fnOf Tryd.prog 140) [.str] (.normal, mkS [(4, .val .str)] [] ((natT u, ()), ())) = .leaf (natT u) := by kernel_rfl
                  rw [this]
                  rfl
        · intro h; cases h
      · rintro (h | ⟨h, _⟩) <;> cases h
    · intro h; cases h
def sfuintG : List (Nat × Ctr) := [(140, fuintC)]
theorem sfuintG_ok : CtrsOK Tryd.prog (fun f => lk f sfuintG) := (ctrs_cons fuint_ok ctrs_nil)
def sfuintC : Ctr := { args := [.int .u64, .int .i64], res := [.str], pre := some (fun (x : Int × Int) => x.2 = 10), fn := fun (x : Int × Int) => natT x.1.toNat }
theorem sfuint_tree : (fun x : Int × Int => evFn (mkC tys sfuintG []) (fnOf Tryd.prog 103) (resL sfuintC.args x) sfuintC.res) =
  (fun x => Tree.need (x.2 = (10 : Int)) (Tree.leaf (natT (Int.toNat x.1)))) := by kernel_rfl
theorem sfuint_ok : CtrOK Tryd.prog 103 sfuintC :=
  fun_ok (G := sfuintG) (Λ := []) tysOK sfuintG_ok mixed (by kernel_rfl) (by kernel_rfl) (by kernel_rfl) (by kernel_rfl) lp_nil fun (x : Int × Int) hw hp => by
    rw [congrFun sfuint_tree x]
    have h : x.2 = 10 := hp _ rfl
    exact ⟨h, rfl⟩
end Go.Ev.D
/- A configuration printed. -/
set_option linter.unusedVariables false
set_option linter.unusedSimpArgs false
namespace Go.Ev.D
open Go.Proofs
def cletterC : Ctr := { args := [.int .i64], res := [.str], pre := none, fn := fun (x : Int) => textN (withF 0 x) }
def cletterG : List (Nat × Ctr) := [(100, withC), (104, ntextC)]
theorem cletter_tree : (fun x : Int => evFn (mkC tys cletterG []) (fnOf Tryd.prog 124) (resL cletterC.args x) cletterC.res) =
  (fun x => Tree.leaf (textN (withF (0 : Int) x))) := by kernel_rfl
theorem cletter_ok : CtrOK Tryd.prog 124 cletterC :=
  fun_ok (G := cletterG) (Λ := []) tysOK (ctrs_cons with_ok (ctrs_cons ntext_ok ctrs_nil)) mixed (by kernel_rfl) (by kernel_rfl) (by kernel_rfl) (by kernel_rfl) lp_nil fun (x : Int) hw _ => by
    rw [congrFun cletter_tree x]
    exact holds_val (d := cletterC.fn x) (by kernel_rfl) (by simp [Tree.safe])
def printG : List (Nat × Ctr) := [(72, rightC), (50, soundC), (124, cletterC), (96, itoaC), (44, upC), (48, ofC), (103, sfuintC)]
theorem printG_ok : CtrsOK Tryd.prog (fun f => lk f printG) := (ctrs_cons right_ok (ctrs_cons sound_ok (ctrs_cons cletter_ok (ctrs_cons itoa_ok (ctrs_cons up_ok (ctrs_cons of_ok (ctrs_cons sfuint_ok ctrs_nil)))))))
def printC : Ctr := { args := [gConf], res := [.str, .int .i64], pre := none, fn := fun (x : DConf) => printF x }
def printD : LoopD where
  prom := []
  ts := [(1, .ptr 1 gConf), (4, .val .str), (56, .val (.sl (.int .i64))), (57, .val (.int .i64)), (58, .val (.int .i64))]
  bs := [(1, .var gConf)]
  pre := fun (x : (List UInt8 × List Int × Int × Int × Unit) × (DConf × Unit)) => 0 ≤ x.1.2.2.2.1 ∧ x.1.2.2.2.1 ≤ x.1.2.2.1 ∧ x.1.2.2.1 = x.1.2.1.length ∧ x.1.2.2.1 ≤ 16 ∧ (x.1.1.length : Int) ≤ 1000 + 60 * x.1.2.2.2.1 ∧ (∀ j ∈ x.1.2.1, 0 ≤ j ∧ j < 16 ∧ hasF x.2.1.2.2.1 j = true) ∧ cOK x.2.1.2.2
  out := fun (x : (List UInt8 × List Int × Int × Int × Unit) × (DConf × Unit)) => .leaf (.exit 2, ((x.1.1 ++ linesB x.2.1.2.2 (x.1.2.1.drop x.1.2.2.2.1.toNat), x.1.2.1, x.1.2.2.1, x.1.2.2.1, ()), (x.2.1, ())))
noncomputable def printL : List (Nat × LoopSpec) := [(0, rounds (mkC tys printG []) (loopB 0 (bodyOf (fnOf Tryd.prog 63))) [] [2, 3, 4, 36, 37] [] 5), (2, printD.spec)]
theorem print_round : (fun x : (List UInt8 × List Int × Int × Int × Unit) × (DConf × Unit) => roundOf (mkC tys printG printL) printD (loopB 2 (bodyOf (fnOf Tryd.prog 63))) x) =
  (fun x =>
    Tree.br (decide (x.1.2.2.2.1 < x.1.2.2.1))
      (Tree.need ((0 : Int) ≤ x.1.2.2.2.1 ∧ x.1.2.2.2.1 < (↑(List.length x.1.2.1) : Int))
        (Tree.need ((5 : Nat) + List.length (textN (withF (0 : Int) (List.getD x.1.2.1 (Int.toNat x.1.2.2.2.1) (0 : Int)))) ≤ (4611686018427387904 : Nat))
          (Tree.need
            (List.length ([(108 : UInt8), (105 : UInt8), (110 : UInt8), (107 : UInt8), (32 : UInt8)] ++ textN (withF (0 : Int) (List.getD x.1.2.1 (Int.toNat x.1.2.2.2.1) (0 : Int)))) + (1 : Nat) ≤
              (4611686018427387904 : Nat))
            (Tree.need ((10 : Int) = (10 : Int))
              (Tree.need
                (List.length
                      ([(108 : UInt8), (105 : UInt8), (110 : UInt8), (107 : UInt8), (32 : UInt8)] ++ textN (withF (0 : Int) (List.getD x.1.2.1 (Int.toNat x.1.2.2.2.1) (0 : Int))) ++ [(32 : UInt8)]) +
                    List.length (natT (Int.toNat (IntKind.wrap IntKind.u64 (ofF x.2.1.2.2 (List.getD x.1.2.1 (Int.toNat x.1.2.2.2.1) (0 : Int)))))) ≤
                  (4611686018427387904 : Nat))
                (Tree.need
                  (List.length
                        ([(108 : UInt8), (105 : UInt8), (110 : UInt8), (107 : UInt8), (32 : UInt8)] ++ textN (withF (0 : Int) (List.getD x.1.2.1 (Int.toNat x.1.2.2.2.1) (0 : Int))) ++ [(32 : UInt8)] ++
                          natT (Int.toNat (IntKind.wrap IntKind.u64 (ofF x.2.1.2.2 (List.getD x.1.2.1 (Int.toNat x.1.2.2.2.1) (0 : Int)))))) +
                      (1 : Nat) ≤
                    (4611686018427387904 : Nat))
                  (Tree.need
                    (List.length x.1.1 +
                        List.length
                          ([(108 : UInt8), (105 : UInt8), (110 : UInt8), (107 : UInt8), (32 : UInt8)] ++ textN (withF (0 : Int) (List.getD x.1.2.1 (Int.toNat x.1.2.2.2.1) (0 : Int))) ++
                                [(32 : UInt8)] ++
                              natT (Int.toNat (IntKind.wrap IntKind.u64 (ofF x.2.1.2.2 (List.getD x.1.2.1 (Int.toNat x.1.2.2.2.1) (0 : Int))))) ++
                            [(10 : UInt8)]) ≤
                      (4611686018427387904 : Nat))
                    (Tree.leaf
                      (Ex.normal,
                        some
                          ((x.1.1 ++
                                ([(108 : UInt8), (105 : UInt8), (110 : UInt8), (107 : UInt8), (32 : UInt8)] ++ textN (withF (0 : Int) (List.getD x.1.2.1 (Int.toNat x.1.2.2.2.1) (0 : Int))) ++
                                      [(32 : UInt8)] ++
                                    natT (Int.toNat (IntKind.wrap IntKind.u64 (ofF x.2.1.2.2 (List.getD x.1.2.1 (Int.toNat x.1.2.2.2.1) (0 : Int))))) ++
                                  [(10 : UInt8)]),
                              x.1.2.1, x.1.2.2.1, IntKind.wrap IntKind.i64 (x.1.2.2.2.1 + (1 : Int)), ()),
                            x.2.1, ()))))))))))
      (Tree.leaf (Ex.exit (2 : Nat), some ((x.1.1, x.1.2.1, x.1.2.2.1, x.1.2.2.2.1, ()), x.2.1, ())))) := by kernel_rfl
theorem print_loop : LoopOK (mkC tys printG printL) printD.spec (loopB 2 (bodyOf (fnOf Tryd.prog 63))) :=
  loopD_ok1 (fun _ => rfl) (fun x => congrFun print_round x) (fun (x : (List UInt8 × List Int × Int × Int × Unit) × (DConf × Unit)) => (x.1.2.2.1 - x.1.2.2.2.1).toNat) fun (x : (List UInt8 × List Int × Int × Int × Unit) × (DConf × Unit)) hp => by
    obtain ⟨⟨o, l, n, i, ⟨⟩⟩, f, ⟨⟩⟩ := x
    obtain ⟨h1, h2, h3, h4, h5, h6, h7⟩ := hp
    simp only at h1 h2 h3 h4 h5 h6 h7
    simp only [Tree.holds]
    refine ⟨fun h => ?_, fun h => ?_⟩
    · have h' : i < n := by simpa using h
      have e : IntKind.i64.wrap (i + 1) = i + 1 := i64_id (by omega) (by omega)
      have hm := h6 _ (getD_mem (l := l) h1 (by omega))
      have hd := drop_int (l := l) h1 (by omega)
      generalize l.getD i.toNat 0 = v at hm hd ⊢
      have hr := h7.2 v.toNat
      have hel := lineB_len f.2.2 v
      have hof : ofF f.2.2 v = f.2.2.2.getD v.toNat 0 := by unfold ofF; rw [hm.2.2]; rfl
      rw [hof, u64_id hr.1 (by omega)]
      unfold lineB at hel
      have hk : ∀ o2, o2 = o ++ lineB f.2.2 v → (0 ≤ IntKind.i64.wrap (i + 1) ∧ IntKind.i64.wrap (i + 1) ≤ n ∧ n = l.length ∧ n ≤ 16 ∧ (o2.length : Int) ≤ 1000 + 60 * IntKind.i64.wrap (i + 1) ∧ (∀ j ∈ l, 0 ≤ j ∧ j < 16 ∧ hasF f.2.2.1 j = true) ∧ cOK f.2.2) ∧ (n - IntKind.i64.wrap (i + 1)).toNat < (n - i).toNat ∧
          (Ex.exit 2, ((o2 ++ linesB f.2.2 (l.drop (IntKind.i64.wrap (i + 1)).toNat), l, n, n, ()), (f, ()))) = (Ex.exit 2, ((o ++ linesB f.2.2 (l.drop i.toNat), l, n, n, ()), (f, ()))) := by
        rintro o2 rfl
        have := lineB_len f.2.2 v
        rw [e, hd, lines_cons]
        refine ⟨⟨by omega, by omega, h3, h4, ?_, h6, h7⟩, by omega, ?_⟩
        · rw [List.length_append]; omega
        · rw [List.append_assoc]
      unfold lineB at hk
      generalize f.2.2.2.getD v.toNat 0 = u at hr hel hk ⊢
      generalize textN (withF 0 v) = a1 at hel hk ⊢
      generalize natT u.toNat = a2 at hel hk ⊢
      simp only [List.length_append, List.length_cons, List.length_nil] at hel
      refine ⟨⟨h1, by omega⟩, ?_, ?_, trivial, ?_, ?_, ?_, _, rfl, hk _ rfl⟩
      all_goals first | omega | (simp only [List.length_append, List.length_cons, List.length_nil]; omega)
    · have h' : ¬ i < n := by simpa using h
      have hi : i = n := by omega
      subst hi
      refine ⟨_, rfl, ?_⟩
      show (Ex.exit 2, ((o ++ linesB f.2.2 (l.drop i.toNat), l, i, i, ()), (f, ()))) = _
      rw [List.drop_eq_nil_of_le (by omega), show linesB f.2.2 [] = [] from rfl, List.append_nil]
      rfl
theorem print_tree : (fun x : DConf => evFn (mkC tys printG printL) (fnOf Tryd.prog 63) (resL printC.args x) printC.res) =
  (fun x =>
    Tree.br (bif !rightF x.1 then true else !soundF x.2.2) (Tree.leaf ([], (1 : Int)))
      (Tree.need ((5 : Nat) + List.length (textN (withF (0 : Int) x.1)) ≤ (4611686018427387904 : Nat))
        (Tree.need (List.length ([(110 : UInt8), (111 : UInt8), (100 : UInt8), (101 : UInt8), (32 : UInt8)] ++ textN (withF (0 : Int) x.1)) + (6 : Nat) ≤ (4611686018427387904 : Nat))
          (Tree.br true
            (Tree.need ((0 : Int) ≤ (0 : Int) ∧ (0 : Int) < (4 : Int))
              (Tree.br (bif decide (x.2.1.1 < (0 : Int)) then true else decide (x.2.1.1 > (1073741824 : Int))) (Tree.leaf ([], (1 : Int)))
                (Tree.need ((1 : Nat) + List.length (itoaF x.2.1.1) ≤ (4611686018427387904 : Nat))
                  (Tree.need
                    (List.length
                          ([(110 : UInt8), (111 : UInt8), (100 : UInt8), (101 : UInt8), (32 : UInt8)] ++ textN (withF (0 : Int) x.1) ++
                            [(10 : UInt8), (114 : UInt8), (117 : UInt8), (108 : UInt8), (101 : UInt8), (115 : UInt8)]) +
                        List.length ([(32 : UInt8)] ++ itoaF x.2.1.1) ≤
                      (4611686018427387904 : Nat))
                    (Tree.br true
                      (Tree.need ((0 : Int) ≤ (1 : Int) ∧ (1 : Int) < (4 : Int))
                        (Tree.br (bif decide (x.2.1.2.1 < (0 : Int)) then true else decide (x.2.1.2.1 > (1073741824 : Int))) (Tree.leaf ([], (1 : Int)))
                          (Tree.need ((1 : Nat) + List.length (itoaF x.2.1.2.1) ≤ (4611686018427387904 : Nat))
                            (Tree.need
                              (List.length
                                    ([(110 : UInt8), (111 : UInt8), (100 : UInt8), (101 : UInt8), (32 : UInt8)] ++ textN (withF (0 : Int) x.1) ++
                                        [(10 : UInt8), (114 : UInt8), (117 : UInt8), (108 : UInt8), (101 : UInt8), (115 : UInt8)] ++
                                      ([(32 : UInt8)] ++ itoaF x.2.1.1)) +
                                  List.length ([(32 : UInt8)] ++ itoaF x.2.1.2.1) ≤
                                (4611686018427387904 : Nat))
                              (Tree.br true
                                (Tree.need ((0 : Int) ≤ (2 : Int) ∧ (2 : Int) < (4 : Int))
                                  (Tree.br (bif decide (x.2.1.2.2.1 < (0 : Int)) then true else decide (x.2.1.2.2.1 > (1073741824 : Int))) (Tree.leaf ([], (1 : Int)))
                                    (Tree.need ((1 : Nat) + List.length (itoaF x.2.1.2.2.1) ≤ (4611686018427387904 : Nat))
                                      (Tree.need
                                        (List.length
                                              ([(110 : UInt8), (111 : UInt8), (100 : UInt8), (101 : UInt8), (32 : UInt8)] ++ textN (withF (0 : Int) x.1) ++
                                                    [(10 : UInt8), (114 : UInt8), (117 : UInt8), (108 : UInt8), (101 : UInt8), (115 : UInt8)] ++
                                                  ([(32 : UInt8)] ++ itoaF x.2.1.1) ++
                                                ([(32 : UInt8)] ++ itoaF x.2.1.2.1)) +
                                            List.length ([(32 : UInt8)] ++ itoaF x.2.1.2.2.1) ≤
                                          (4611686018427387904 : Nat))
                                        (Tree.br true
                                          (Tree.need ((0 : Int) ≤ (3 : Int) ∧ (3 : Int) < (4 : Int))
                                            (Tree.br (bif decide (x.2.1.2.2.2 < (0 : Int)) then true else decide (x.2.1.2.2.2 > (1073741824 : Int))) (Tree.leaf ([], (1 : Int)))
                                              (Tree.need ((1 : Nat) + List.length (itoaF x.2.1.2.2.2) ≤ (4611686018427387904 : Nat))
                                                (Tree.need
                                                  (List.length
                                                        ([(110 : UInt8), (111 : UInt8), (100 : UInt8), (101 : UInt8), (32 : UInt8)] ++ textN (withF (0 : Int) x.1) ++
                                                                [(10 : UInt8), (114 : UInt8), (117 : UInt8), (108 : UInt8), (101 : UInt8), (115 : UInt8)] ++
                                                              ([(32 : UInt8)] ++ itoaF x.2.1.1) ++
                                                            ([(32 : UInt8)] ++ itoaF x.2.1.2.1) ++
                                                          ([(32 : UInt8)] ++ itoaF x.2.1.2.2.1)) +
                                                      List.length ([(32 : UInt8)] ++ itoaF x.2.1.2.2.2) ≤
                                                    (4611686018427387904 : Nat))
                                                  (Tree.br false
                                                    (Tree.need ((0 : Int) ≤ (4 : Int) ∧ (4 : Int) < (4 : Int))
                                                      (Tree.br
                                                        (bif decide (List.getD [x.2.1.1, x.2.1.2.1, x.2.1.2.2.1, x.2.1.2.2.2] (4 : Nat) (0 : Int) < (0 : Int)) then true
                                                        else decide (List.getD [x.2.1.1, x.2.1.2.1, x.2.1.2.2.1, x.2.1.2.2.2] (4 : Nat) (0 : Int) > (1073741824 : Int)))
                                                        (Tree.leaf ([], (1 : Int)))
                                                        (Tree.need
                                                          ((1 : Nat) + List.length (itoaF (List.getD [x.2.1.1, x.2.1.2.1, x.2.1.2.2.1, x.2.1.2.2.2] (4 : Nat) (0 : Int))) ≤ (4611686018427387904 : Nat))
                                                          (Tree.need
                                                            (List.length
                                                                  ([(110 : UInt8), (111 : UInt8), (100 : UInt8), (101 : UInt8), (32 : UInt8)] ++ textN (withF (0 : Int) x.1) ++
                                                                            [(10 : UInt8), (114 : UInt8), (117 : UInt8), (108 : UInt8), (101 : UInt8), (115 : UInt8)] ++
                                                                          ([(32 : UInt8)] ++ itoaF x.2.1.1) ++
                                                                        ([(32 : UInt8)] ++ itoaF x.2.1.2.1) ++
                                                                      ([(32 : UInt8)] ++ itoaF x.2.1.2.2.1) ++
                                                                    ([(32 : UInt8)] ++ itoaF x.2.1.2.2.2)) +
                                                                List.length ([(32 : UInt8)] ++ itoaF (List.getD [x.2.1.1, x.2.1.2.1, x.2.1.2.2.1, x.2.1.2.2.2] (4 : Nat) (0 : Int))) ≤
                                                              (4611686018427387904 : Nat))
                                                            Tree.stuck))))
                                                    (Tree.need
                                                      (List.length
                                                            ([(110 : UInt8), (111 : UInt8), (100 : UInt8), (101 : UInt8), (32 : UInt8)] ++ textN (withF (0 : Int) x.1) ++
                                                                      [(10 : UInt8), (114 : UInt8), (117 : UInt8), (108 : UInt8), (101 : UInt8), (115 : UInt8)] ++
                                                                    ([(32 : UInt8)] ++ itoaF x.2.1.1) ++
                                                                  ([(32 : UInt8)] ++ itoaF x.2.1.2.1) ++
                                                                ([(32 : UInt8)] ++ itoaF x.2.1.2.2.1) ++
                                                              ([(32 : UInt8)] ++ itoaF x.2.1.2.2.2)) +
                                                          (1 : Nat) ≤
                                                        (4611686018427387904 : Nat))
                                                      (Tree.need
                                                        ((0 : Int) ≤ (0 : Int) ∧
                                                          (0 : Int) ≤ (↑(List.length (elemsF x.2.2.1 (16 : Nat))) : Int) ∧
                                                            (↑(List.length (elemsF x.2.2.1 (16 : Nat))) : Int) = (↑(List.length (elemsF x.2.2.1 (16 : Nat))) : Int) ∧
                                                              (↑(List.length (elemsF x.2.2.1 (16 : Nat))) : Int) ≤ (16 : Int) ∧
                                                                (↑(List.length
                                                                          ([(110 : UInt8), (111 : UInt8), (100 : UInt8), (101 : UInt8), (32 : UInt8)] ++ textN (withF (0 : Int) x.1) ++
                                                                                      [(10 : UInt8), (114 : UInt8), (117 : UInt8), (108 : UInt8), (101 : UInt8), (115 : UInt8)] ++
                                                                                    ([(32 : UInt8)] ++ itoaF x.2.1.1) ++
                                                                                  ([(32 : UInt8)] ++ itoaF x.2.1.2.1) ++
                                                                                ([(32 : UInt8)] ++ itoaF x.2.1.2.2.1) ++
                                                                              ([(32 : UInt8)] ++ itoaF x.2.1.2.2.2) ++
                                                                            [(10 : UInt8)])) :
                                                                      Int) ≤
                                                                    (1000 : Int) + (60 : Int) * (0 : Int) ∧
                                                                  (∀ (j : Int), j ∈ elemsF x.2.2.1 (16 : Nat) → (0 : Int) ≤ j ∧ j < (16 : Int) ∧ hasF x.2.2.1 j = true) ∧ cOK x.2.2)
                                                        (Tree.leaf
                                                          ([(110 : UInt8), (111 : UInt8), (100 : UInt8), (101 : UInt8), (32 : UInt8)] ++ textN (withF (0 : Int) x.1) ++
                                                                          [(10 : UInt8), (114 : UInt8), (117 : UInt8), (108 : UInt8), (101 : UInt8), (115 : UInt8)] ++
                                                                        ([(32 : UInt8)] ++ itoaF x.2.1.1) ++
                                                                      ([(32 : UInt8)] ++ itoaF x.2.1.2.1) ++
                                                                    ([(32 : UInt8)] ++ itoaF x.2.1.2.2.1) ++
                                                                  ([(32 : UInt8)] ++ itoaF x.2.1.2.2.2) ++
                                                                [(10 : UInt8)] ++
                                                              linesB x.2.2 (List.drop (Int.toNat (0 : Int)) (elemsF x.2.2.1 (16 : Nat))),
                                                            (0 : Int))))))))))
                                          (Tree.need
                                            (List.length
                                                  ([(110 : UInt8), (111 : UInt8), (100 : UInt8), (101 : UInt8), (32 : UInt8)] ++ textN (withF (0 : Int) x.1) ++
                                                          [(10 : UInt8), (114 : UInt8), (117 : UInt8), (108 : UInt8), (101 : UInt8), (115 : UInt8)] ++
                                                        ([(32 : UInt8)] ++ itoaF x.2.1.1) ++
                                                      ([(32 : UInt8)] ++ itoaF x.2.1.2.1) ++
                                                    ([(32 : UInt8)] ++ itoaF x.2.1.2.2.1)) +
                                                (1 : Nat) ≤
                                              (4611686018427387904 : Nat))
                                            (Tree.need
                                              ((0 : Int) ≤ (0 : Int) ∧
                                                (0 : Int) ≤ (↑(List.length (elemsF x.2.2.1 (16 : Nat))) : Int) ∧
                                                  (↑(List.length (elemsF x.2.2.1 (16 : Nat))) : Int) = (↑(List.length (elemsF x.2.2.1 (16 : Nat))) : Int) ∧
                                                    (↑(List.length (elemsF x.2.2.1 (16 : Nat))) : Int) ≤ (16 : Int) ∧
                                                      (↑(List.length
                                                                ([(110 : UInt8), (111 : UInt8), (100 : UInt8), (101 : UInt8), (32 : UInt8)] ++ textN (withF (0 : Int) x.1) ++
                                                                          [(10 : UInt8), (114 : UInt8), (117 : UInt8), (108 : UInt8), (101 : UInt8), (115 : UInt8)] ++
                                                                        ([(32 : UInt8)] ++ itoaF x.2.1.1) ++
                                                                      ([(32 : UInt8)] ++ itoaF x.2.1.2.1) ++
                                                                    ([(32 : UInt8)] ++ itoaF x.2.1.2.2.1) ++
                                                                  [(10 : UInt8)])) :
                                                            Int) ≤
                                                          (1000 : Int) + (60 : Int) * (0 : Int) ∧
                                                        (∀ (j : Int), j ∈ elemsF x.2.2.1 (16 : Nat) → (0 : Int) ≤ j ∧ j < (16 : Int) ∧ hasF x.2.2.1 j = true) ∧ cOK x.2.2)
                                              (Tree.leaf
                                                ([(110 : UInt8), (111 : UInt8), (100 : UInt8), (101 : UInt8), (32 : UInt8)] ++ textN (withF (0 : Int) x.1) ++
                                                              [(10 : UInt8), (114 : UInt8), (117 : UInt8), (108 : UInt8), (101 : UInt8), (115 : UInt8)] ++
                                                            ([(32 : UInt8)] ++ itoaF x.2.1.1) ++
                                                          ([(32 : UInt8)] ++ itoaF x.2.1.2.1) ++
                                                        ([(32 : UInt8)] ++ itoaF x.2.1.2.2.1) ++
                                                      [(10 : UInt8)] ++
                                                    linesB x.2.2 (List.drop (Int.toNat (0 : Int)) (elemsF x.2.2.1 (16 : Nat))),
                                                  (0 : Int))))))))))
                                (Tree.need
                                  (List.length
                                        ([(110 : UInt8), (111 : UInt8), (100 : UInt8), (101 : UInt8), (32 : UInt8)] ++ textN (withF (0 : Int) x.1) ++
                                              [(10 : UInt8), (114 : UInt8), (117 : UInt8), (108 : UInt8), (101 : UInt8), (115 : UInt8)] ++
                                            ([(32 : UInt8)] ++ itoaF x.2.1.1) ++
                                          ([(32 : UInt8)] ++ itoaF x.2.1.2.1)) +
                                      (1 : Nat) ≤
                                    (4611686018427387904 : Nat))
                                  (Tree.need
                                    ((0 : Int) ≤ (0 : Int) ∧
                                      (0 : Int) ≤ (↑(List.length (elemsF x.2.2.1 (16 : Nat))) : Int) ∧
                                        (↑(List.length (elemsF x.2.2.1 (16 : Nat))) : Int) = (↑(List.length (elemsF x.2.2.1 (16 : Nat))) : Int) ∧
                                          (↑(List.length (elemsF x.2.2.1 (16 : Nat))) : Int) ≤ (16 : Int) ∧
                                            (↑(List.length
                                                      ([(110 : UInt8), (111 : UInt8), (100 : UInt8), (101 : UInt8), (32 : UInt8)] ++ textN (withF (0 : Int) x.1) ++
                                                              [(10 : UInt8), (114 : UInt8), (117 : UInt8), (108 : UInt8), (101 : UInt8), (115 : UInt8)] ++
                                                            ([(32 : UInt8)] ++ itoaF x.2.1.1) ++
                                                          ([(32 : UInt8)] ++ itoaF x.2.1.2.1) ++
                                                        [(10 : UInt8)])) :
                                                  Int) ≤
                                                (1000 : Int) + (60 : Int) * (0 : Int) ∧
                                              (∀ (j : Int), j ∈ elemsF x.2.2.1 (16 : Nat) → (0 : Int) ≤ j ∧ j < (16 : Int) ∧ hasF x.2.2.1 j = true) ∧ cOK x.2.2)
                                    (Tree.leaf
                                      ([(110 : UInt8), (111 : UInt8), (100 : UInt8), (101 : UInt8), (32 : UInt8)] ++ textN (withF (0 : Int) x.1) ++
                                                  [(10 : UInt8), (114 : UInt8), (117 : UInt8), (108 : UInt8), (101 : UInt8), (115 : UInt8)] ++
                                                ([(32 : UInt8)] ++ itoaF x.2.1.1) ++
                                              ([(32 : UInt8)] ++ itoaF x.2.1.2.1) ++
                                            [(10 : UInt8)] ++
                                          linesB x.2.2 (List.drop (Int.toNat (0 : Int)) (elemsF x.2.2.1 (16 : Nat))),
                                        (0 : Int))))))))))
                      (Tree.need
                        (List.length
                              ([(110 : UInt8), (111 : UInt8), (100 : UInt8), (101 : UInt8), (32 : UInt8)] ++ textN (withF (0 : Int) x.1) ++
                                  [(10 : UInt8), (114 : UInt8), (117 : UInt8), (108 : UInt8), (101 : UInt8), (115 : UInt8)] ++
                                ([(32 : UInt8)] ++ itoaF x.2.1.1)) +
                            (1 : Nat) ≤
                          (4611686018427387904 : Nat))
                        (Tree.need
                          ((0 : Int) ≤ (0 : Int) ∧
                            (0 : Int) ≤ (↑(List.length (elemsF x.2.2.1 (16 : Nat))) : Int) ∧
                              (↑(List.length (elemsF x.2.2.1 (16 : Nat))) : Int) = (↑(List.length (elemsF x.2.2.1 (16 : Nat))) : Int) ∧
                                (↑(List.length (elemsF x.2.2.1 (16 : Nat))) : Int) ≤ (16 : Int) ∧
                                  (↑(List.length
                                            ([(110 : UInt8), (111 : UInt8), (100 : UInt8), (101 : UInt8), (32 : UInt8)] ++ textN (withF (0 : Int) x.1) ++
                                                  [(10 : UInt8), (114 : UInt8), (117 : UInt8), (108 : UInt8), (101 : UInt8), (115 : UInt8)] ++
                                                ([(32 : UInt8)] ++ itoaF x.2.1.1) ++
                                              [(10 : UInt8)])) :
                                        Int) ≤
                                      (1000 : Int) + (60 : Int) * (0 : Int) ∧
                                    (∀ (j : Int), j ∈ elemsF x.2.2.1 (16 : Nat) → (0 : Int) ≤ j ∧ j < (16 : Int) ∧ hasF x.2.2.1 j = true) ∧ cOK x.2.2)
                          (Tree.leaf
                            ([(110 : UInt8), (111 : UInt8), (100 : UInt8), (101 : UInt8), (32 : UInt8)] ++ textN (withF (0 : Int) x.1) ++
                                      [(10 : UInt8), (114 : UInt8), (117 : UInt8), (108 : UInt8), (101 : UInt8), (115 : UInt8)] ++
                                    ([(32 : UInt8)] ++ itoaF x.2.1.1) ++
                                  [(10 : UInt8)] ++
                                linesB x.2.2 (List.drop (Int.toNat (0 : Int)) (elemsF x.2.2.1 (16 : Nat))),
                              (0 : Int))))))))))
            (Tree.need
              (List.length
                    ([(110 : UInt8), (111 : UInt8), (100 : UInt8), (101 : UInt8), (32 : UInt8)] ++ textN (withF (0 : Int) x.1) ++
                      [(10 : UInt8), (114 : UInt8), (117 : UInt8), (108 : UInt8), (101 : UInt8), (115 : UInt8)]) +
                  (1 : Nat) ≤
                (4611686018427387904 : Nat))
              (Tree.need
                ((0 : Int) ≤ (0 : Int) ∧
                  (0 : Int) ≤ (↑(List.length (elemsF x.2.2.1 (16 : Nat))) : Int) ∧
                    (↑(List.length (elemsF x.2.2.1 (16 : Nat))) : Int) = (↑(List.length (elemsF x.2.2.1 (16 : Nat))) : Int) ∧
                      (↑(List.length (elemsF x.2.2.1 (16 : Nat))) : Int) ≤ (16 : Int) ∧
                        (↑(List.length
                                  ([(110 : UInt8), (111 : UInt8), (100 : UInt8), (101 : UInt8), (32 : UInt8)] ++ textN (withF (0 : Int) x.1) ++
                                      [(10 : UInt8), (114 : UInt8), (117 : UInt8), (108 : UInt8), (101 : UInt8), (115 : UInt8)] ++
                                    [(10 : UInt8)])) :
                              Int) ≤
                            (1000 : Int) + (60 : Int) * (0 : Int) ∧
                          (∀ (j : Int), j ∈ elemsF x.2.2.1 (16 : Nat) → (0 : Int) ≤ j ∧ j < (16 : Int) ∧ hasF x.2.2.1 j = true) ∧ cOK x.2.2)
                (Tree.leaf
                  ([(110 : UInt8), (111 : UInt8), (100 : UInt8), (101 : UInt8), (32 : UInt8)] ++ textN (withF (0 : Int) x.1) ++
                          [(10 : UInt8), (114 : UInt8), (117 : UInt8), (108 : UInt8), (101 : UInt8), (115 : UInt8)] ++
                        [(10 : UInt8)] ++
                      linesB x.2.2 (List.drop (Int.toNat (0 : Int)) (elemsF x.2.2.1 (16 : Nat))),
                    (0 : Int))))))))) := by kernel_rfl
theorem print_ok : CtrOK Tryd.prog 63 printC :=
  fun_ok (G := printG) (Λ := printL) tysOK printG_ok mixed (by kernel_rfl) (by kernel_rfl) (by kernel_rfl) (by kernel_rfl) (lp_cons (rounds_ok0 rfl rfl rfl (by kernel_rfl)) (lp_cons print_loop lp_nil)) fun (x : DConf) hw _ => by
    rw [congrFun print_tree x]
    have e : printC.fn x = printF x := rfl
    have hl := elems_len x.2.2.1 16
    rw [e]
    have b0 := textN_len (withF 0 x.1)
    have b1 := itoaF_len x.2.1.1
    have b2 := itoaF_len x.2.1.2.1
    have b3 := itoaF_len x.2.1.2.2.1
    have b4 := itoaF_len x.2.1.2.2.2
    have hpre : (∀ j ∈ elemsF x.2.2.1 16, 0 ≤ j ∧ j < 16 ∧ hasF x.2.2.1 j = true) ∧ cOK x.2.2 := ⟨fun j hj => elem_in (Nat.le_refl 16) hj, cOK_wt hw.2.2⟩
    simp only [Tree.holds]
    refine ⟨fun h => print_bad h, fun h => ⟨?_, ?_, fun _ => ⟨⟨by omega, by omega⟩, fun g1 => print_num h (rb1 g1), fun g1 => ⟨?_, ?_, fun _ => ⟨⟨by omega, by omega⟩, fun g2 => print_num h (rb2 g1 g2), fun g2 => ⟨?_, ?_, fun _ => ⟨⟨by omega, by omega⟩, fun g3 => print_num h (rb3 g1 g2 g3), fun g3 => ⟨?_, ?_, fun _ => ⟨⟨by omega, by omega⟩, fun g4 => print_num h (rb4 g1 g2 g3 g4), fun g4 => ⟨?_, ?_, nofun, fun _ => ⟨?_, ⟨?_, ?_, ?_, ?_, ?_, hpre.1, hpre.2⟩, print_good h (rb4 g1 g2 g3 g4)⟩⟩⟩, nofun⟩⟩, nofun⟩⟩, nofun⟩⟩, nofun⟩⟩
    all_goals first | trivial | omega | (simp only [List.length_append, List.length_cons, List.length_nil]; omega)
end Go.Ev.D
/- strings.Cut, Index, Split: laid at this seat by the kit's tools. -/
namespace Go.Proofs
open Go.Shelf
def Tryd.lays143_ren : Go.Shelf.Ren := ⟨fun | 143 => 157 | 219 => 166 | 217 => 180 | 225 => 181 | 224 => 182 | 267 => 183 | 266 => 187 | 314 => 188 | n => n, fun | 9 => 9 | 3 => 3 | 4 => 4 | 5 => 5 | 46 => 46 | 146 => 175 | 51 => 33 | n => n, fun | 1 => 3 | n => n⟩
theorem Tryd.lays143 : Go.Proofs.Lays.n143 Tryd.prog Tryd.lays143_ren := {
  mixed := by kernel_rfl
  f143 := Tryd.func157.trans (congrArg some (by kernel_rfl))
  f217 := Tryd.func180.trans (congrArg some (by kernel_rfl))
  f219 := Tryd.func166.trans (congrArg some (by kernel_rfl))
  f224 := Tryd.func182.trans (congrArg some (by kernel_rfl))
  f225 := Tryd.func181.trans (congrArg some (by kernel_rfl))
  f266 := Tryd.func187.trans (congrArg some (by kernel_rfl))
  f267 := Tryd.func183.trans (congrArg some (by kernel_rfl))
  f314 := Tryd.func188.trans (congrArg some (by kernel_rfl))
  t3 := Tryd.underlying3
  a3 := Tryd.isAgg3
  z3 := Tryd.sizeOf3
  v3 := Tryd.zeroValue3
  t4 := Tryd.underlying4
  a4 := Tryd.isAgg4
  z4 := Tryd.sizeOf4
  v4 := Tryd.zeroValue4
  t5 := Tryd.underlying5
  a5 := Tryd.isAgg5
  z5 := Tryd.sizeOf5
  v5 := Tryd.zeroValue5
  t9 := Tryd.underlying9
  a9 := Tryd.isAgg9
  z9 := Tryd.sizeOf9
  v9 := Tryd.zeroValue9
  t46 := Tryd.underlying46
  a46 := Tryd.isAgg46
  z46 := Tryd.sizeOf46
  v46 := Tryd.zeroValue46
  t51 := Tryd.underlying33
  a51 := Tryd.isAgg33
  z51 := Tryd.sizeOf33
  v51 := Tryd.zeroValue33
  t146 := Tryd.underlying175
  a146 := Tryd.isAgg175
  z146 := Tryd.sizeOf175
  v146 := Tryd.zeroValue175
  g1 := by kernel_rfl }
open Go.RowKit Go.Lib in
/-- strings.Index: "Index returns the index of the first instance of substr in s, or -1 if substr is not present in s.": IT RETURNS 'Lib.index s substr'; the world is as it was. (LAID: no walk: one application.) -/
theorem Tryd.strings_Index (s sub : ByteArray) (m : Int) (w : World) (hs : s.size < 4294967281) (hm : w.cell? ⟨3, 0, none⟩ = some (.int .i64 m)) :
    Calls Tryd.prog 157 #[.string s, .string sub] w fun e w' => e = .returned (.int .i64 (Lib.index s.data.toList sub.data.toList)) ∧ w' = w := Any.strings_Index Tryd.lays143 s sub m w hs hm
def Tryd.lays145_ren : Go.Shelf.Ren := ⟨fun | 145 => 132 | 220 => 147 | 219 => 166 | 217 => 180 | 225 => 181 | 224 => 182 | 267 => 183 | 266 => 187 | 314 => 188 | n => n, fun | 9 => 9 | 4 => 4 | 59 => 131 | 3 => 3 | 5 => 5 | 46 => 46 | 146 => 175 | 51 => 33 | n => n, fun | 1 => 3 | n => n⟩
theorem Tryd.lays145 : Go.Proofs.Lays.n145 Tryd.prog Tryd.lays145_ren := {
  mixed := by kernel_rfl
  f145 := Tryd.func132.trans (congrArg some (by kernel_rfl))
  f217 := Tryd.func180.trans (congrArg some (by kernel_rfl))
  f219 := Tryd.func166.trans (congrArg some (by kernel_rfl))
  f220 := Tryd.func147.trans (congrArg some (by kernel_rfl))
  f224 := Tryd.func182.trans (congrArg some (by kernel_rfl))
  f225 := Tryd.func181.trans (congrArg some (by kernel_rfl))
  f266 := Tryd.func187.trans (congrArg some (by kernel_rfl))
  f267 := Tryd.func183.trans (congrArg some (by kernel_rfl))
  f314 := Tryd.func188.trans (congrArg some (by kernel_rfl))
  t3 := Tryd.underlying3
  a3 := Tryd.isAgg3
  z3 := Tryd.sizeOf3
  v3 := Tryd.zeroValue3
  t4 := Tryd.underlying4
  a4 := Tryd.isAgg4
  z4 := Tryd.sizeOf4
  v4 := Tryd.zeroValue4
  t5 := Tryd.underlying5
  a5 := Tryd.isAgg5
  z5 := Tryd.sizeOf5
  v5 := Tryd.zeroValue5
  t9 := Tryd.underlying9
  a9 := Tryd.isAgg9
  z9 := Tryd.sizeOf9
  v9 := Tryd.zeroValue9
  t46 := Tryd.underlying46
  a46 := Tryd.isAgg46
  z46 := Tryd.sizeOf46
  v46 := Tryd.zeroValue46
  t51 := Tryd.underlying33
  a51 := Tryd.isAgg33
  z51 := Tryd.sizeOf33
  v51 := Tryd.zeroValue33
  t59 := Tryd.underlying131
  a59 := Tryd.isAgg131
  z59 := Tryd.sizeOf131
  v59 := Tryd.zeroValue131
  t146 := Tryd.underlying175
  a146 := Tryd.isAgg175
  z146 := Tryd.sizeOf175
  v146 := Tryd.zeroValue175
  g1 := by kernel_rfl }
open Go.RowKit Go.Lib in
/-- strings.Cut: "Cut slices s around the first instance of sep, returning the text before and after sep. The found result reports whether sep appears in s. If sep does not appear in s, cut returns s, "", false.": IT RETURNS 'Lib.cut s sep'; the world is as it was but for the count of draws. (LAID: no walk: one application.) -/
theorem Tryd.strings_Cut (s sep : ByteArray) (m : Int) (w : World) (hs : s.size < 4294967281) (hm : w.cell? ⟨3, 0, none⟩ = some (.int .i64 m)) :
    Calls Tryd.prog 132 #[.string s, .string sep] w fun e w' => e = .returned (.tuple #[.string ⟨(Lib.cut s.data.toList sep.data.toList).1.toArray⟩, .string ⟨(Lib.cut s.data.toList sep.data.toList).2.1.toArray⟩, .bool (Lib.cut s.data.toList sep.data.toList).2.2]) ∧ ∃ n, w' = w.drewN n := Any.strings_Cut Tryd.lays145 s sep m w hs hm
def Tryd.lays146_ren : Go.Shelf.Ren := ⟨fun | 146 => 167 | 221 => 184 | 268 => 189 | 138 => 190 | 143 => 157 | 195 => 191 | 197 => 192 | 218 => 193 | 219 => 166 | 260 => 194 | 217 => 180 | 225 => 181 | 224 => 182 | 267 => 183 | 266 => 187 | 314 => 188 | n => n, fun | 9 => 9 | 31 => 119 | 3 => 3 | 4 => 4 | 0 => 0 | 105 => 181 | 21 => 21 | 5 => 5 | 46 => 46 | 119 => 183 | 139 => 186 | 138 => 185 | 146 => 175 | 51 => 33 | n => n, fun | 1 => 3 | 3 => 6 | 4 => 7 | n => n⟩
theorem Tryd.lays146 : Go.Proofs.Lays.n146 Tryd.prog Tryd.lays146_ren := {
  mixed := by kernel_rfl
  f138 := Tryd.func190.trans (congrArg some (by kernel_rfl))
  f143 := Tryd.func157.trans (congrArg some (by kernel_rfl))
  f146 := Tryd.func167.trans (congrArg some (by kernel_rfl))
  f195 := Tryd.func191.trans (congrArg some (by kernel_rfl))
  f197 := Tryd.func192.trans (congrArg some (by kernel_rfl))
  f217 := Tryd.func180.trans (congrArg some (by kernel_rfl))
  f218 := Tryd.func193.trans (congrArg some (by kernel_rfl))
  f219 := Tryd.func166.trans (congrArg some (by kernel_rfl))
  f221 := Tryd.func184.trans (congrArg some (by kernel_rfl))
  f224 := Tryd.func182.trans (congrArg some (by kernel_rfl))
  f225 := Tryd.func181.trans (congrArg some (by kernel_rfl))
  f260 := Tryd.func194.trans (congrArg some (by kernel_rfl))
  f266 := Tryd.func187.trans (congrArg some (by kernel_rfl))
  f267 := Tryd.func183.trans (congrArg some (by kernel_rfl))
  f268 := Tryd.func189.trans (congrArg some (by kernel_rfl))
  f314 := Tryd.func188.trans (congrArg some (by kernel_rfl))
  t0 := Tryd.underlying0
  a0 := Tryd.isAgg0
  z0 := Tryd.sizeOf0
  v0 := Tryd.zeroValue0
  t3 := Tryd.underlying3
  a3 := Tryd.isAgg3
  z3 := Tryd.sizeOf3
  v3 := Tryd.zeroValue3
  t4 := Tryd.underlying4
  a4 := Tryd.isAgg4
  z4 := Tryd.sizeOf4
  v4 := Tryd.zeroValue4
  t5 := Tryd.underlying5
  a5 := Tryd.isAgg5
  z5 := Tryd.sizeOf5
  v5 := Tryd.zeroValue5
  t9 := Tryd.underlying9
  a9 := Tryd.isAgg9
  z9 := Tryd.sizeOf9
  v9 := Tryd.zeroValue9
  t21 := Tryd.underlying21
  a21 := Tryd.isAgg21
  z21 := Tryd.sizeOf21
  v21 := Tryd.zeroValue21
  t31 := Tryd.underlying119
  a31 := Tryd.isAgg119
  z31 := Tryd.sizeOf119
  v31 := Tryd.zeroValue119
  t46 := Tryd.underlying46
  a46 := Tryd.isAgg46
  z46 := Tryd.sizeOf46
  v46 := Tryd.zeroValue46
  t51 := Tryd.underlying33
  a51 := Tryd.isAgg33
  z51 := Tryd.sizeOf33
  v51 := Tryd.zeroValue33
  t105 := Tryd.underlying181
  a105 := Tryd.isAgg181
  z105 := Tryd.sizeOf181
  v105 := Tryd.zeroValue181
  t119 := Tryd.underlying183
  a119 := Tryd.isAgg183
  z119 := Tryd.sizeOf183
  t138 := Tryd.underlying185
  a138 := Tryd.isAgg185
  z138 := Tryd.sizeOf185
  v138 := Tryd.zeroValue185
  t139 := Tryd.underlying186
  a139 := Tryd.isAgg186
  z139 := Tryd.sizeOf186
  v139 := Tryd.zeroValue186
  t146 := Tryd.underlying175
  a146 := Tryd.isAgg175
  z146 := Tryd.sizeOf175
  v146 := Tryd.zeroValue175
  g1 := by kernel_rfl
  g3 := by kernel_rfl
  g4 := by kernel_rfl }
open Go.RowKit Go.Lib in
/-- strings.Split. (LAID: no walk: one application.) -/
theorem Tryd.strings_Split (s sep : ByteArray) (m : Int) (w : World) (hs : s.size < 4294967281) (hm : w.cell? ⟨3, 0, none⟩ = some (.int .i64 m)) (h1 : 1 ≤ sep.size) :
    Calls Tryd.prog 167 #[.string s, .string sep] w fun e w' =>
      e = .returned (.slice (some ⟨w.heap.size, 0, none⟩) (Lib.countB s sep + 1) (Lib.countB s sep + 1)) ∧ w' = w.alloc (.cells ((Lib.splitB sep 0 (Lib.countB s sep) s).map Value.string).toArray 9) := Any.strings_Split Tryd.lays146 (by kernel_rfl) s sep m w hs hm h1
end Go.Proofs
/- Texts cut, looked through and split: the library's contracts, as ours. -/
set_option linter.unusedVariables false
set_option linter.unusedSimpArgs false
namespace Go.Ev.D
open Go.Proofs
theorem cut_len (s t : List UInt8) : (Lib.cut s t).1.length ≤ s.length ∧ (Lib.cut s t).2.1.length ≤ s.length := by
  unfold Lib.cut
  split
  · exact ⟨by simp only [List.length_take]; omega, by simp only [List.length_drop]; omega⟩
  · exact ⟨Nat.le_refl _, Nat.zero_le _⟩
def scutC : Ctr := { args := [.str, .str], res := [.str, .str, .bool], pre := some (fun (x : List UInt8 × List UInt8) => x.1.length ≤ 10000), fn := fun (x : List UInt8 × List UInt8) => Lib.cut x.1 x.2 }
theorem int_cell {S : Stab} {w : World} (hT : Tab S w) {g : Nat} (h : (g, isInt) ∈ anyC) : ∃ m, w.cell? ⟨g, 0, none⟩ = some (.int .i64 m) := by
  obtain ⟨_, v, ⟨m, rfl⟩, h2⟩ := hT.2 _ h
  exact ⟨m, h2⟩
theorem scut_ok : CtrOK Tryd.prog 132 scutC := by
  refine ⟨⟨_, fnOf_eq (by kernel_rfl), by kernel_rfl, by kernel_rfl⟩, ?_⟩
  intro w S us (x : List UInt8 × List UInt8) hS hT henc hp
  have hlen : x.1.length ≤ 10000 := hp (fun (x : List UInt8 × List UInt8) => x.1.length ≤ 10000) rfl
  obtain ⟨s, t⟩ := x
  obtain ⟨c1, us1, ⟨rfl, _⟩, rfl, c2, ⟨rfl, _⟩, rfl⟩ := henc
  obtain ⟨m, hm⟩ := int_cell hT any3
  show Calls Tryd.prog 132 #[.string ⟨⟨s⟩⟩, .string ⟨⟨t⟩⟩] w _
  refine (Tryd.strings_Cut ⟨⟨s⟩⟩ ⟨⟨t⟩⟩ m w (by show s.length < _; simp only at hlen; omega) hm).mono ?_
  rintro e w' ⟨rfl, n, rfl⟩
  have h1 : (Lib.cut s t).1.length ≤ s.length ∧ (Lib.cut s t).2.1.length ≤ s.length := cut_len s t
  simp only at hlen
  refine ⟨_, rfl, ⟨rfl, rfl, rfl, Nat.le_refl _, fun _ _ => rfl⟩, fun _ _ => False, fun _ _ h => h.elim, [_, _, _], ⟨_, _, ⟨rfl, ?_⟩, rfl, _, _, ⟨rfl, ?_⟩, rfl, _, rfl, rfl⟩, rfl⟩
  · show (Lib.cut s t).1.length ≤ maxStr
    unfold maxStr; omega
  · show (Lib.cut s t).2.1.length ≤ maxStr
    unfold maxStr; omega
end Go.Ev.D
/- A configuration's words: a node, a number. -/
set_option linter.unusedVariables false
set_option linter.unusedSimpArgs false
namespace Go.Ev.D
open Go.Proofs
def noLineV : Value := .iface 9 (.string ⟨⟨[110, 111, 32, 108, 105, 110, 101]⟩⟩)
def mnodeC : DCtr := { args := [.str], res := [.int .i64], die := fun (x : List UInt8) => nodeBad x, val := fun _ => noLineV, fn := fun (x : List UInt8) => nodeP x }
def mnodeG : List (Nat × Ctr) := [(119, nparseC), (87, ncountC), (120, lowestC)]
theorem mnode_tree : (fun x : List UInt8 => evFnD (mkC tys mnodeG []) (fnOf Tryd.prog 168) (resL mnodeC.args x) mnodeC.res) =
  (fun x =>
    Tree.need ((((nparseF x).2 != (0 : Int)) == false && true) = true → lowPre (nparseF x).1)
      (Tree.br (bif (nparseF x).2 != (0 : Int) then true else (↑(List.length (elemsF (nparseF x).1 (16 : Nat))) : Int) != (1 : Int))
        (Tree.leaf (Sum.inl (Value.iface (9 : Nat) (Value.string { data := { toList := [(110 : UInt8), (111 : UInt8), (32 : UInt8), (108 : UInt8), (105 : UInt8), (110 : UInt8), (101 : UInt8)] } }))))
        (Tree.leaf (Sum.inr (lowestF (nparseF x).1))))) := by kernel_rfl
theorem mnode_ok : DCtrOK Tryd.prog 168 mnodeC :=
  funD_ok (G := mnodeG) (Λ := []) (D := []) tysOK (ctrs_cons nparse_ok (ctrs_cons ncount_ok (ctrs_cons lowest_ok ctrs_nil))) ds_nil mixed (by kernel_rfl) (by kernel_rfl) (by kernel_rfl) (by kernel_rfl) lp_nil fun (x : List UInt8) hw _ => by
    have e1 : mnodeC.die x = nodeBad x := rfl
    have e2 : mnodeC.val x = noLineV := rfl
    have e3 : mnodeC.fn x = nodeP x := rfl
    rw [e1, e2, e3]
    have k2 : evFnD (mkC tys mnodeG []) (fnOf Tryd.prog 168) (resL mnodeC.args x) mnodeC.res = _ := congrFun mnode_tree x
    rw [k2]
    simp only [Tree.holds]
    refine ⟨fun _ => np_low x, fun h => ?_, fun h => ?_⟩
    · have h' : nodeBad x = true := h
      rw [h']; rfl
    · have h' : nodeBad x = false := h
      rw [h']; rfl
def mnumD : LoopD where
  prom := []
  ts := [(0, .val .str), (3, .val (.int .i64)), (19, .val (.int .i64)), (20, .val (.int .i64))]
  bs := []
  pre := fun (x : MnS) => mnPre x
  out := fun (x : MnS) => outD noLineV 0 (runF (mnStp noLineV) (mnMu x + 1) x)
theorem mnum_round : (fun x : MnS => roundOf (mkC tys [] [(0, mnumD.spec)]) mnumD (loopB 0 (bodyOf (fnOf Tryd.prog 169))) x) =
  (fun x =>
    Tree.br (decide (x.1.2.2.2.1 < x.1.2.2.1))
      (Tree.need ((0 : Int) ≤ x.1.2.2.2.1 ∧ x.1.2.2.2.1 < (↑(List.length x.1.1) : Int))
        (Tree.need
          ((decide ((↑(UInt8.toNat (List.getD x.1.1 (Int.toNat x.1.2.2.2.1) (0 : UInt8))) : Int) < (48 : Int)) == false && true) = true →
            (0 : Int) ≤ x.1.2.2.2.1 ∧ x.1.2.2.2.1 < (↑(List.length x.1.1) : Int))
          (Tree.br
            (bif
                bif decide ((↑(UInt8.toNat (List.getD x.1.1 (Int.toNat x.1.2.2.2.1) (0 : UInt8))) : Int) < (48 : Int)) then true
                else decide ((↑(UInt8.toNat (List.getD x.1.1 (Int.toNat x.1.2.2.2.1) (0 : UInt8))) : Int) > (57 : Int)) then
              true
            else decide (x.1.2.1 > (1073741824 : Int)))
            (Tree.leaf
              (Ex.die (Value.iface (9 : Nat) (Value.string { data := { toList := [(110 : UInt8), (111 : UInt8), (32 : UInt8), (108 : UInt8), (105 : UInt8), (110 : UInt8), (101 : UInt8)] } })),
                some ((x.1.1, x.1.2.1, x.1.2.2.1, x.1.2.2.2.1, ()), ())))
            (Tree.need ((0 : Int) ≤ x.1.2.2.2.1 ∧ x.1.2.2.2.1 < (↑(List.length x.1.1) : Int))
              (Tree.leaf
                (Ex.normal,
                  some
                    ((x.1.1,
                        IntKind.wrap IntKind.i64
                          (IntKind.wrap IntKind.i64 (x.1.2.1 * (10 : Int)) +
                            IntKind.wrap IntKind.i64 (IntKind.wrap IntKind.u8 ((↑(UInt8.toNat (List.getD x.1.1 (Int.toNat x.1.2.2.2.1) (0 : UInt8))) : Int) - (48 : Int)))),
                        x.1.2.2.1, IntKind.wrap IntKind.i64 (x.1.2.2.2.1 + (1 : Int)), ()),
                      ())))))))
      (Tree.leaf (Ex.exit (0 : Nat), some ((x.1.1, x.1.2.1, x.1.2.2.1, x.1.2.2.2.1, ()), ())))) := by kernel_rfl
theorem mnum_loop : LoopOK (mkC tys [] [(0, mnumD.spec)]) mnumD.spec (loopB 0 (bodyOf (fnOf Tryd.prog 169))) :=
  loopFD_ok (v := noLineV) (id := 0) (D := mnumD) (fun x => congrFun mnum_round x) (mnStp noLineV) mnMu (fun _ => rfl) (mnStp_ends _) fun (x : MnS) hp => by
    refine ⟨?_, fun hn => mn_go hp hn⟩
    obtain ⟨⟨s, n, len, i, ⟨⟩⟩, ⟨⟩⟩ := x
    obtain ⟨h1, h2, h3, h4, h5, h6⟩ := hp
    simp only at h1 h2 h3 h4 h5 h6
    have hb : mnB ((s, n, len, i, PUnit.unit), PUnit.unit) = ((s.getD i.toNat 0).toNat : Int) := rfl
    have hlt := (s.getD i.toNat 0).toNat_lt
    simp only [Tree.holds, mnStp, hb]
    generalize (s.getD i.toNat 0).toNat = c at hlt ⊢
    refine ⟨fun h => ?_, fun h => by rw [h]; rfl⟩
    have hi := of_decide_eq_true h
    refine ⟨⟨h1, by omega⟩, fun _ => ⟨h1, by omega⟩, fun g => ?_, fun g => ⟨⟨h1, by omega⟩, ?_⟩⟩
    · have g' : badD 1073741824 (c : Int) n = true := g
      rw [h, g']; rfl
    · have g' : badD 1073741824 (c : Int) n = false := g
      have := badD_no g'
      rw [h, g', wrap_u8, show ((c : Int) - 48) % 256 = (c : Int) - 48 by omega, i64_id (n := (c : Int) - 48) (by omega) (by omega), i64_id (n := n * 10) (by omega) (by omega), i64_id (n := n * 10 + ((c : Int) - 48)) (by omega) (by omega), i64_id (n := i + 1) (by omega) (by omega)]
      rfl
def mnumC : DCtr := { args := [.str], res := [.int .i64], die := fun (x : List UInt8) => negP (numP x), val := fun _ => noLineV, fn := fun (x : List UInt8) => numP x }
theorem mnum_tree : (fun x : List UInt8 => evFnD (mkC tys [] [(0, mnumD.spec)]) (fnOf Tryd.prog 169) (resL mnumC.args x) mnumC.res) =
  (fun x =>
    Tree.need (((x == []) == false && true) = true → (0 : Int) ≤ (0 : Int) ∧ (0 : Int) < (↑(List.length x) : Int))
      (Tree.br (bif x == [] then true else bif (↑(UInt8.toNat (List.getD x (0 : Nat) (0 : UInt8))) : Int) == (48 : Int) then decide ((↑(List.length x) : Int) > (1 : Int)) else false)
        (Tree.leaf (Sum.inl (Value.iface (9 : Nat) (Value.string { data := { toList := [(110 : UInt8), (111 : UInt8), (32 : UInt8), (108 : UInt8), (105 : UInt8), (110 : UInt8), (101 : UInt8)] } }))))
        (Tree.need (mnPre ((x, (0 : Int), (↑(List.length x) : Int), (0 : Int), PUnit.unit), PUnit.unit))
          (Tree.br
            (isDieX
              (runF (mnStp (Value.iface (9 : Nat) (Value.string { data := { toList := [(110 : UInt8), (111 : UInt8), (32 : UInt8), (108 : UInt8), (105 : UInt8), (110 : UInt8), (101 : UInt8)] } })))
                  (mnMu ((x, (0 : Int), (↑(List.length x) : Int), (0 : Int), PUnit.unit), PUnit.unit) + (1 : Nat)) ((x, (0 : Int), (↑(List.length x) : Int), (0 : Int), PUnit.unit), PUnit.unit)).1)
            (Tree.leaf
              (Sum.inl (Value.iface (9 : Nat) (Value.string { data := { toList := [(110 : UInt8), (111 : UInt8), (32 : UInt8), (108 : UInt8), (105 : UInt8), (110 : UInt8), (101 : UInt8)] } }))))
            (Tree.leaf
              (Sum.inr
                (runF (mnStp (Value.iface (9 : Nat) (Value.string { data := { toList := [(110 : UInt8), (111 : UInt8), (32 : UInt8), (108 : UInt8), (105 : UInt8), (110 : UInt8), (101 : UInt8)] } })))
                          (mnMu ((x, (0 : Int), (↑(List.length x) : Int), (0 : Int), PUnit.unit), PUnit.unit) + (1 : Nat))
                          ((x, (0 : Int), (↑(List.length x) : Int), (0 : Int), PUnit.unit), PUnit.unit)).2.1.2.1)))))) := by kernel_rfl
theorem encL_strs {w : World} {S : Stab} : ∀ L : List ByteArray, (∀ b ∈ L, b.data.toList.length ≤ maxStr) → encL (Enc w S .str) (L.map (·.data.toList)) (L.map Value.string)
  | [], _ => rfl
  | b :: L, h => ⟨[.string b], L.map Value.string, rfl, ⟨rfl, h b (by simp)⟩, encL_strs L fun x hx => h x (by simp [hx])⟩
theorem mnum_ok : DCtrOK Tryd.prog 169 mnumC :=
  funD_ok (G := []) (Λ := [(0, mnumD.spec)]) (D := []) tysOK ctrs_nil ds_nil mixed (by kernel_rfl) (by kernel_rfl) (by kernel_rfl) (by kernel_rfl) (lp_cons mnum_loop lp_nil) fun (x : List UInt8) hw _ => by
    have e1 : mnumC.die x = negP (numP x) := rfl
    have e2 : mnumC.val x = noLineV := rfl
    have e3 : mnumC.fn x = numP x := rfl
    rw [e1, e2, e3]
    have k2 : evFnD (mkC tys [] [(0, mnumD.spec)]) (fnOf Tryd.prog 169) (resL mnumC.args x) mnumC.res = _ := congrFun mnum_tree x
    rw [k2]
    have hx : x.length ≤ 4611686018427387904 := hw
    obtain ⟨hp, key⟩ := mn_all (v := noLineV) hx
    simp only [Tree.holds]
    refine ⟨fun h => ?_, fun h => ?_, fun h => ⟨hp, fun h2 => ?_, fun h2 => ?_⟩⟩
    · have hne : x ≠ [] := by
        intro e
        rw [e] at h
        cases h
      have := List.length_pos_iff.2 hne
      omega
    · have h' : (bif x == [] then true else lzF x) = true := h
      rw [numP_bad h']; rfl
    · have h' : (bif x == [] then true else lzF x) = false := h
      cases hg : numGo 1073741824 x 0 with
      | none => rw [numP_none hg]; rfl
      | some n =>
        rw [hg] at key
        have k1 : (runF (mnStp noLineV) (mnMu (mnSt x) + 1) (mnSt x)).1 = .exit 0 := key.1
        have h3 : isDieX (runF (mnStp noLineV) (mnMu (mnSt x) + 1) (mnSt x)).1 = true := h2
        rw [k1] at h3
        cases h3
    · have h' : (bif x == [] then true else lzF x) = false := h
      cases hg : numGo 1073741824 x 0 with
      | none =>
        rw [hg] at key
        have k1 : (runF (mnStp noLineV) (mnMu (mnSt x) + 1) (mnSt x)).1 = .die noLineV := key
        have h3 : isDieX (runF (mnStp noLineV) (mnMu (mnSt x) + 1) (mnSt x)).1 = false := h2
        rw [k1] at h3
        cases h3
      | some n =>
        rw [hg] at key
        have k2 : (runF (mnStp noLineV) (mnMu (mnSt x) + 1) (mnSt x)).2.1.2.1 = n := key.2
        obtain ⟨e1, e2⟩ := numP_some h' hg
        rw [e1]
        have e3 : negP n = false := decide_eq_false (by omega)
        rw [e3]
        show Sum.inr (runF (mnStp noLineV) (mnMu (mnSt x) + 1) (mnSt x)).2.1.2.1 = _
        rw [k2]; rfl
def splitPre (x : List UInt8 × List UInt8) : Prop := x.1.length ≤ 10000 ∧ x.2 = [32]
def ssplitC : Ctr := { args := [.str, .str], res := [.sl .str], pre := some splitPre, fn := fun (x : List UInt8 × List UInt8) => wordsF x.1 }
theorem ssplit_ok : CtrOK Tryd.prog 167 ssplitC := by
  refine ⟨⟨_, fnOf_eq (by kernel_rfl), by kernel_rfl, by kernel_rfl⟩, ?_⟩
  intro w S us (x : List UInt8 × List UInt8) hS hT henc hp
  obtain ⟨hlen, hsep⟩ : splitPre x := hp splitPre rfl
  obtain ⟨s, t⟩ := x
  simp only at hlen hsep
  subst hsep
  obtain ⟨c1, us1, ⟨rfl, _⟩, rfl, c2, ⟨rfl, _⟩, rfl⟩ := henc
  obtain ⟨m, hm⟩ := int_cell hT any3
  show Calls Tryd.prog 167 #[.string ⟨⟨s⟩⟩, .string ⟨⟨[32]⟩⟩] w _
  refine (Tryd.strings_Split ⟨⟨s⟩⟩ ⟨⟨[32]⟩⟩ m w (by show s.length < _; omega) hm (by decide)).mono ?_
  rintro e w' ⟨rfl, rfl⟩
  have hL : (Lib.splitB ⟨⟨[32]⟩⟩ 0 (Lib.countB ⟨⟨s⟩⟩ ⟨⟨[32]⟩⟩) ⟨⟨s⟩⟩).map (·.data.toList) = wordsF s := splitB_words s
  have hN := Lib.splitB_all ⟨⟨[32]⟩⟩ (by decide) 0 _ ⟨⟨s⟩⟩ rfl
  generalize Lib.splitB ⟨⟨[32]⟩⟩ 0 (Lib.countB ⟨⟨s⟩⟩ ⟨⟨[32]⟩⟩) ⟨⟨s⟩⟩ = L at hL hN ⊢
  generalize Lib.countB ⟨⟨s⟩⟩ ⟨⟨[32]⟩⟩ = k at hN ⊢
  have hw : List.length (α := List UInt8) (wordsF s) = k + 1 := by rw [← hL, List.length_map, hN]
  obtain ⟨q1, q2⟩ := words_lens s []
  have q1' : k + 1 ≤ s.length + 1 := by rw [← hw]; exact q1
  have hmem : ∀ b ∈ L, b.data.toList.length ≤ maxStr := fun b hb => by
    have := q2 b.data.toList (by show _ ∈ wordsF s; rw [← hL]; exact List.mem_map_of_mem hb)
    simp only [List.length_nil] at this
    simp only [maxStr]; omega
  refine ⟨_, rfl, Grows.alloc w _, fun b o => b = w.heap.size ∧ o < k + 1, fun b o h => ⟨by omega, by rw [h.1]; simp⟩, [.slice (some ⟨w.heap.size, 0, none⟩) (k + 1) (k + 1)], ⟨[.slice (some ⟨w.heap.size, 0, none⟩) (k + 1) (k + 1)], ⟨some ⟨w.heap.size, 0, none⟩, k + 1, ?_, ?_, ?_, ?_, .inr ⟨w.heap.size, 0, L.map Value.string, rfl, ?_, fun j v hv => ⟨?_, .inr ⟨rfl, ?_⟩⟩⟩⟩, rfl⟩, rfl⟩
  · show _ = [Value.slice _ (List.length (α := List UInt8) (wordsF s)) _]
    rw [hw]
  · show List.length (α := List UInt8) (wordsF s) ≤ k + 1
    omega
  · show List.length (α := List UInt8) (wordsF s) * 16 ≤ maxRow
    simp only [maxRow]; omega
  · show List.length (α := List UInt8) (wordsF s) ≤ maxRow
    simp only [maxRow]; omega
  · show encL _ (wordsF s) _
    rw [← hL]
    exact encL_strs L hmem
  · have h1 : (L.map Value.string).toArray[j]? = some v := by simpa using hv
    have h2 := heap_alloc_new w (Obj.cells (L.map Value.string).toArray 9)
    simp only [World.cell?, h2, Nat.zero_add]
    exact h1
  · have : j < (L.map Value.string).length := by
      rcases Nat.lt_or_ge j (L.map Value.string).length with h | h
      · exact h
      · rw [List.getElem?_eq_none h] at hv; cases hv
    rw [List.length_map, hN] at this
    omega
end Go.Ev.D
