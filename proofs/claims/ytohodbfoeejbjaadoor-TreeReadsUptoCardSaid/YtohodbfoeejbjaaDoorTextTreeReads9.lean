/- What a row reads, told in types. -/
import Derived.Deep.Slices
import Derived.ChangeSame
import Derived.Carry
import Derived.RowKit3
import Derived.OpenShut
import Derived.ChangeCalls
import Derived.Shelf.Strings.Builder1
import Derived.Shelf.Utf8.RuneCount
import Derived.Shelf.Strconv.Itoa0
import Derived.Shelf.Strconv.Itoa1
import Derived.Shelf.LaysM
import Derived.Shelf.Strconv.Itoa2
import Derived.Shelf.Strconv.Itoa3
import Derived.Shelf.Strings.Search1
import Derived.Shelf.Strings.Search2
import Derived.Shelf.Strings.Search3
import Derived.Shelf.Strings.Cut
import Derived.Shelf.Strings.Count
import Derived.Shelf.Strings.Shaped
import Derived.Shelf.Strings.Split
import Derived.Shelf.Strings.SplitShaped
import Derived.Shelf.Unicode.Decode
import Derived.Shelf.Strings.RuneCount
import Derived.Shelf.Strings.Explode
import Derived.Shelf.Unicode.DecodeSlow
import Derived.Shelf.Unicode.DecodeAny
import Derived.Test.YtohodbfoeejbjaaDoorProg
import Derived.Shelf.Pu.ParseUintPublic10
import Derived.Test.YtohodbfoeejbjaaDoorTextTreeReads8

set_option linter.unusedVariables false
set_option linter.unusedSimpArgs false
namespace Go.Ev
open Go.ChangeShapes Go.RowKit

mutual
def bulk {H : Type} : DataW H → Nat
  | .lit (.string bytes) => bytes.length + 1
  | .lit _ => 1
  | .nil => 1
  | .ptr d => bulk d + 1
  | .slice elems spare => bulkAll elems + bulkAll spare + 1
  | .agg parts => bulkAll parts + 1
  | .iface _ d => bulk d + 1
  | .map entries => bulkEntries entries + 1
  | .held _ => 1
def bulkAll {H : Type} : List (DataW H) → Nat
  | [] => 0
  | d :: r => bulk d + bulkAll r
def bulkEntries {H : Type} : List (Lit × DataW H) → Nat
  | [] => 0
  | x :: r => bulkEntry x + bulkEntries r
def bulkEntry {H : Type} : Lit × DataW H → Nat
  | (.string bytes, d) => bytes.length + bulk d + 1
  | (_, d) => bulk d + 1
end

theorem bulk_mem {H : Type} {d : DataW H} : ∀ {l : List (DataW H)}, d ∈ l → bulk d ≤ bulkAll l
  | [], h => by simp at h
  | x :: l, h => by
    simp only [bulkAll]
    rcases List.mem_cons.1 h with rfl | h
    · omega
    · have := bulk_mem h; omega

theorem bulk_pos {H : Type} : ∀ (d : DataW H), 1 ≤ bulk d := by
  intro d
  cases d with
  | lit l => cases l <;> simp [bulk]
  | _ => simp [bulk]

theorem bulk_len {H : Type} : ∀ (l : List (DataW H)), l.length ≤ bulkAll l
  | [] => by simp [bulkAll]
  | x :: l => by
    have := bulk_len l
    have := bulk_pos x
    simp only [bulkAll, List.length_cons]
    omega

abbrev allS (w : World) : Stab := fun b _ => b < w.heap.size

section
variable {P : Program} {τ : Tys} {w : World} {H : Type} {enc : TypeId × Value → H}

theorem cellsOf_eq (TOK : TysOK P τ) {t : TypeId} {i : TInfo} (hi : τ t = some i) : P.cellsOf t = ncell i.g := by
  obtain ⟨ti, h1, h2, _⟩ := (TOK t i hi).info
  simp [Program.cellsOf, h1, h2]

/-- A chain, out of its fields. -/
theorem chain_enc {S : Stab} : ∀ {n : Nat} {g : GTy} {cs : List Value}, Chain n g → cs.length = ncell g → (∀ k, k < n → ∃ h x, pathTy g (fieldPath n k) = some h ∧ Enc w S h x ((cs.drop (offs g (fieldPath n k))).take (ncell h)) ∧ small h x) → ∃ x, Enc w S g x cs ∧ small g x
  | 1, .prod a .unit, cs, _, hl, h => by
    obtain ⟨h', x, h1, h2, h3⟩ := h 0 (by omega)
    simp only [fieldPath, pathTy, Option.some.injEq] at h1
    subst h1
    simp only [fieldPath, offs, List.drop_zero] at h2
    simp only [ncell, Nat.add_zero] at hl
    rw [List.take_of_length_le (by omega)] at h2
    exact ⟨(x, ()), ⟨cs, [], by simp, h2, rfl⟩, h3, trivial⟩
  | 2, .prod a b, cs, _, hl, h => by
    obtain ⟨h0, x, p1, p2, p3⟩ := h 0 (by omega)
    obtain ⟨h1, y, q1, q2, q3⟩ := h 1 (by omega)
    simp only [fieldPath, pathTy, Option.some.injEq] at p1 q1
    subst p1
    subst q1
    simp only [fieldPath, offs, List.drop_zero, Nat.add_zero] at p2 q2
    simp only [ncell] at hl
    rw [List.take_of_length_le (by simp; omega)] at q2
    exact ⟨(x, y), ⟨_, _, (List.take_append_drop (ncell a) cs).symm, p2, q2⟩, p3, q3⟩
  | n + 3, .prod a b, cs, hc, hl, h => by
    obtain ⟨h0, x, p1, p2, p3⟩ := h 0 (by omega)
    simp only [fieldPath, pathTy, Option.some.injEq] at p1
    subst p1
    simp only [fieldPath, offs, List.drop_zero] at p2
    simp only [ncell] at hl
    obtain ⟨y, hy, hy'⟩ := chain_enc (n := n + 2) (g := b) (cs := cs.drop (ncell a)) hc (by simp; omega) (fun k hk => by
      obtain ⟨h', z, r1, r2, r3⟩ := h (k + 1) (by omega)
      refine ⟨h', z, ?_, ?_, r3⟩
      · simpa only [fieldPath, pathTy] using r1
      · simp only [fieldPath, offs] at r2
        rw [List.drop_drop]
        exact r2)
    exact ⟨(x, y), ⟨_, _, (List.take_append_drop (ncell a) cs).symm, p2, hy⟩, p3, hy'⟩
theorem mapM_get {α β : Type} {f : α → Option β} : ∀ {l : List α} {r : List β}, l.mapM f = some r → r.length = l.length ∧ ∀ (k : Nat) (a : α), l[k]? = some a → ∃ b, r[k]? = some b ∧ f a = some b
  | [], r, h => by
    simp at h
    subst h
    simp
  | a :: l, r, h => by
    rw [List.mapM_cons] at h
    cases ha : f a with
    | none => simp [ha] at h
    | some b =>
      cases hl : l.mapM f with
      | none => simp [ha, hl] at h
      | some r' =>
        simp [ha, hl] at h
        subst h
        obtain ⟨h1, h2⟩ := mapM_get hl
        refine ⟨by simp [h1], fun k x hk => ?_⟩
        cases k with
        | zero => simp at hk; subst hk; exact ⟨b, by simp, ha⟩
        | succ k => simpa using h2 k x (by simpa using hk)

/-- A row of n, out of its places. -/
theorem row_enc {S : Stab} {g : GTy} : ∀ (n : Nat) {cs : List Value}, cs.length = n * ncell g → (∀ k, k < n → ∃ x, Enc w S g x ((cs.drop (k * ncell g)).take (ncell g)) ∧ small g x) → ∃ xs : List (den g), xs.length = n ∧ encL (Enc w S g) xs cs ∧ ∀ x, x ∈ xs → small g x
  | 0, cs, hl, _ => ⟨[], rfl, by simp at hl; exact hl, by simp⟩
  | n + 1, cs, hl, h => by
    obtain ⟨x, hx, hsx⟩ := h 0 (by omega)
    simp only [Nat.zero_mul, List.drop_zero] at hx
    rw [Nat.add_mul, Nat.one_mul] at hl
    obtain ⟨xs, h1, h2, h3⟩ := row_enc (S := S) (g := g) n (cs := cs.drop (ncell g)) (by rw [List.length_drop, hl]; omega) (fun k hk => by
      obtain ⟨y, hy, hsy⟩ := h (k + 1) (by omega)
      refine ⟨y, ?_, hsy⟩
      rw [List.drop_drop]
      rw [Nat.add_mul, Nat.one_mul, Nat.add_comm] at hy
      exact hy)
    exact ⟨x :: xs, by simp [h1], ⟨_, _, (List.take_append_drop (ncell g) cs).symm, hx, h2⟩, fun z hz => by
      rcases List.mem_cons.1 hz with rfl | hz
      · exact hsx
      · exact h3 z hz⟩
theorem cells_get {base : Nat} {a : Addr} {n : Nat} {cs : List Value} (h : w.cells? base a n = some cs) : cs.length = n ∧ ∀ j, j < n → ∃ v, cs[j]? = some v ∧ w.cell? (a.add j) = some v := by
  unfold World.cells? at h
  split at h
  · obtain ⟨h1, h2⟩ := mapM_get h
    refine ⟨by simpa using h1, fun j hj => ?_⟩
    obtain ⟨v, h3, h4⟩ := h2 j j (by simp [hj])
    exact ⟨v, h3, h4⟩
  · cases h

theorem cell_spot {a : Addr} {v : Value} (h : w.cell? a = some v) : a.spot = none ∧ a.block < w.heap.size := by
  unfold World.cell? at h
  split at h
  · rename_i c _ _ hc
    split at h
    · cases h
    · rename_i hs
      exact ⟨by simpa using hs, (Array.getElem?_eq_some_iff.1 hc).1⟩
  · cases h

theorem trod_enc (TOK : TysOK P τ) : ∀ (fuel : Nat) (t : TypeId) (i : TInfo) (cs : List Value) (x : DataW H × List MemPlace), τ t = some i → DataW.trod enc P w 0 (fun _ => true) true fuel t cs = some x → bulk x.1 ≤ 1048576 → ∃ y, Enc w (allS w) i.g y cs ∧ small i.g y
  | 0, t, i, cs, x, _, h, _ => by simp [DataW.trod] at h
  | fuel + 1, t, i, cs, x, hi, h, hb => by
    have T := TOK t i hi
    have hd := T.desc
    have hcl := cellsOf_eq (P := P) TOK hi
    obtain ⟨g, nf, by_, el⟩ := i
    cases g with
    | unit => exact hd.elim
    | err =>
      obtain ⟨ms, hd⟩ := hd
      simp only [DataW.trod, hd] at h
      split at h <;> first | exact ⟨false, .inl ⟨rfl, rfl⟩, trivial⟩ | exact ⟨true, .inr ⟨rfl, _, _, rfl⟩, trivial⟩ | (simp_all; done)
    | bool =>
      simp only at hd
      simp only [DataW.trod, hd] at h
      split at h <;> first | exact ⟨_, rfl, trivial⟩ | simp_all
    | int k =>
      simp only at hd
      simp only [DataW.trod, hd] at h
      split at h <;> try (simp_all; done)
      rename_i k' k2 n heq
      split at h
      · rename_i hk
        simp only [Option.some.injEq, TypeDesc.int.injEq] at heq
        obtain ⟨hk1, hk2⟩ := hk
        subst heq
        subst hk1
        simp only [Lit.wf, Bool.and_eq_true, decide_eq_true_eq] at hk2
        exact ⟨n, ⟨rfl, hk2⟩, trivial⟩
      · cases h
    | str =>
      simp only at hd
      simp only [DataW.trod, hd] at h
      split at h <;> try (simp_all; done)
      rename_i s' _
      split at h
      · rename_i hs
        simp only [Option.some.injEq] at h
        subst h
        simp only [bulk] at hb
        refine ⟨s'.data.toList, ⟨rfl, ?_⟩, ?_⟩
        · simp only [maxStr]; omega
        · show List.length _ ≤ _
          omega
      · cases h
    | prod a b =>
      obtain ⟨fs, q1, q2, q3, q4, q5⟩ := hd
      simp only [DataW.trod, q1] at h
      split at h
      · rename_i hl
        obtain ⟨xs, h1, h2⟩ := Option.map_eq_some_iff.1 h
        obtain ⟨h3, h4⟩ := mapM_get h1
        subst h2
        refine chain_enc q3 (by rw [hl, hcl]) (fun k hk => ?_)
        have hk' : k < fs.size := by omega
        obtain ⟨r1, r2, r3, j, r4, r5, r6⟩ := q5 k fs[k] (by simp [hk'])
        obtain ⟨y, h5, h6⟩ := h4 k fs[k] (by simp [hk'])
        have hby : bulk y.1 ≤ 1048576 := by
          have := bulk_mem (d := y.1) (l := xs.map (·.1)) (List.mem_map.2 ⟨y, List.mem_of_getElem? h5, rfl⟩)
          simp only [bulk] at hb
          omega
        obtain ⟨z, hz, hsz⟩ := trod_enc TOK fuel _ j _ _ r4 h6 hby
        refine ⟨j.g, z, r5, ?_, hsz⟩
        rw [r2, cellsOf_eq TOK r4] at hz
        exact hz
      · cases h
    | arr n a =>
      obtain ⟨e, j, q1, q2, q3⟩ := hd
      subst q3
      simp only [DataW.trod, q1] at h
      split at h
      · rename_i hl
        obtain ⟨xs, h1, h2⟩ := Option.map_eq_some_iff.1 h
        obtain ⟨h3, h4⟩ := mapM_get h1
        subst h2
        have hce := cellsOf_eq (P := P) TOK q2
        obtain ⟨zs, k1, k2, k3⟩ := row_enc (w := w) (S := allS w) (g := j.g) n (cs := cs) (by rw [hl, hcl]; rfl) (fun k hk => by
          obtain ⟨y, h5, h6⟩ := h4 k k (by simp [hk])
          have hby : bulk y.1 ≤ 1048576 := by
            have := bulk_mem (d := y.1) (l := xs.map (·.1)) (List.mem_map.2 ⟨y, List.mem_of_getElem? h5, rfl⟩)
            simp only [bulk] at hb
            omega
          rw [hce] at h6
          exact trod_enc TOK fuel _ j _ _ q2 h6 hby)
        exact ⟨zs, ⟨k1, k2⟩, k3⟩
      · cases h
    | sl a =>
      obtain ⟨e, j, ti, q1, q2, q3, q4, q5, q6, q7, q8, q9⟩ := hd
      subst q4
      have hce := cellsOf_eq (P := P) TOK q3
      have hadd : ∀ (blk off j : Nat), (⟨blk, off, none⟩ : Addr).add j = ⟨blk, off + j, none⟩ := by
        intro blk off j
        unfold Addr.add
        split
        · rename_i hj; subst hj; rfl
        · rfl
      simp only [DataW.trod, q1] at h
      split at h <;> try (simp_all; done)
      · exact ⟨[], ⟨none, 0, rfl, Nat.le_refl _, by simp, by simp [maxRow], .inl rfl⟩, by simp, by simp⟩
      · rename_i e' ad len cap heq
        simp only [Option.some.injEq, TypeDesc.slice.injEq] at heq
        subst heq
        split at h
        · rename_i hcond
          obtain ⟨elems, h1, h2⟩ := Option.bind_eq_some_iff.1 h
          obtain ⟨rest, h3, h4⟩ := Option.map_eq_some_iff.1 h2
          subst h4
          obtain ⟨k1, k2⟩ := mapM_get h1
          have hlen : len ≤ 1048576 := by
            have := bulk_len (elems.map (·.1))
            simp only [bulk] at hb
            simp at this k1
            omega
          have hel : ∀ k, k < len → ∃ ck z, w.cells? 0 (ad.add (k * ncell j.g)) (ncell j.g) = some ck ∧ Enc w (allS w) j.g z ck ∧ small j.g z := by
            intro k hk
            obtain ⟨y, h5, h6⟩ := k2 k k (by simp [hk])
            obtain ⟨ck, h7, h8⟩ := Option.bind_eq_some_iff.1 h6
            have hby : bulk y.1 ≤ 1048576 := by
              have := bulk_mem (d := y.1) (l := elems.map (·.1)) (List.mem_map.2 ⟨y, List.mem_of_getElem? h5, rfl⟩)
              simp only [bulk] at hb
              omega
            rw [hce] at h7
            obtain ⟨z, hz, hsz⟩ := trod_enc TOK fuel _ j _ _ q3 h8 hby
            exact ⟨ck, z, h7, hz, hsz⟩
          rcases Nat.eq_zero_or_pos len with h0 | h0
          · subst h0
            exact ⟨[], ⟨some ad, cap, rfl, Nat.zero_le _, by simp, by simp [maxRow], .inl rfl⟩, by simp, by simp⟩
          · have hspot : ad.spot = none := by
              obtain ⟨ck, z, h7, _⟩ := hel 0 h0
              obtain ⟨_, h8⟩ := cells_get h7
              obtain ⟨v, _, h9⟩ := h8 0 q9
              rw [Nat.zero_mul, show (ad.add 0).add 0 = ad from rfl] at h9
              exact (cell_spot h9).1
            obtain ⟨blk, off, spot⟩ := ad
            simp only at hspot
            subst hspot
            let ds : List Value := (List.range (len * ncell j.g)).map fun q => (w.cell? ⟨blk, off + q, none⟩).getD undef
            have hds : ∀ k, k < len → ∀ q, q < ncell j.g → ∃ v, w.cell? ⟨blk, off + (k * ncell j.g + q), none⟩ = some v := by
              intro k hk q hq
              obtain ⟨ck, z, h7, _⟩ := hel k hk
              obtain ⟨_, h8⟩ := cells_get h7
              obtain ⟨v, _, h9⟩ := h8 q hq
              rw [hadd, hadd] at h9
              exact ⟨v, by rw [← Nat.add_assoc]; exact h9⟩
            have hseg : ∀ k ck, k < len → w.cells? 0 (Addr.add ⟨blk, off, none⟩ (k * ncell j.g)) (ncell j.g) = some ck → (ds.drop (k * ncell j.g)).take (ncell j.g) = ck := by
              intro k ck hk hc
              obtain ⟨h8, h9⟩ := cells_get hc
              have hle : (k + 1) * ncell j.g ≤ len * ncell j.g := Nat.mul_le_mul_right _ hk
              rw [Nat.add_mul, Nat.one_mul] at hle
              apply List.ext_getElem?
              intro q
              rw [List.getElem?_take]
              split
              · rename_i hq
                obtain ⟨v, h10, h11⟩ := h9 q hq
                rw [hadd, hadd, Nat.add_assoc] at h11
                rw [List.getElem?_drop, h10]
                simp only [ds, List.getElem?_map]
                rw [List.getElem?_range (by omega)]
                simp [h11]
              · rename_i hq
                rw [List.getElem?_eq_none (by omega)]
            obtain ⟨zs, r1, r2, r3⟩ := row_enc (w := w) (S := allS w) (g := j.g) len (cs := ds) (by simp [ds]) (fun k hk => by
              obtain ⟨ck, z, h7, h8, h9⟩ := hel k hk
              exact ⟨z, by rw [hseg k ck hk h7]; exact h8, h9⟩)
            have hlb := (TOK e j q3).small.2
            have hlm : len * lbytes j.g ≤ 1048576 * 1048576 := Nat.mul_le_mul hlen hlb
            refine ⟨zs, ⟨some ⟨blk, off, none⟩, cap, by rw [r1], by rw [r1]; exact hcond.2.1, by rw [r1]; simp only [maxRow]; omega, by rw [r1]; simp only [maxRow]; omega, .inr ⟨blk, off, ds, rfl, r2, fun q v hv => ?_⟩⟩, ?_⟩
            rotate_left
            · exact ⟨by rw [r1]; exact hlen, r3⟩
            simp only [ds, List.getElem?_map] at hv
            by_cases hq : q < len * ncell j.g
            · rw [List.getElem?_range hq] at hv
              have hk : q / ncell j.g < len := by
                rw [Nat.div_lt_iff_lt_mul q9]; exact hq
              obtain ⟨v', hv'⟩ := hds (q / ncell j.g) hk (q % ncell j.g) (Nat.mod_lt _ q9)
              rw [show q / ncell j.g * ncell j.g + q % ncell j.g = q from by rw [Nat.mul_comm]; exact Nat.div_add_mod q _] at hv'
              simp only [hv', Option.map_some, Option.getD_some, Option.some.injEq] at hv
              subst hv
              exact ⟨hv', (cell_spot hv').2⟩
            · rw [List.getElem?_eq_none (by simp; omega)] at hv
              simp at hv
        · cases h

/-- An argument is as the machine hands it round. -/
theorem val_of_ok (TOK : TysOK P τ) {t : TypeId} {i : TInfo} (hi : τ t = some i) {base : Nat} {v : Value} (hok : Value.okWide P w .any base t v) (hl : v.cells.toList.length = ncell i.g) : v = toVal i.g v.cells.toList := by
  have T := TOK t i hi
  have ha := T.agg
  unfold toVal
  cases h : isAgg i.g with
  | true =>
    rw [h] at ha
    unfold Value.okWide at hok
    split at hok
    · obtain ⟨cs, rfl, _⟩ := hok; simp [Value.cells]
    · obtain ⟨cs, rfl, _⟩ := hok; simp [Value.cells]
    · rename_i h1 h2
      split at ha
      · rename_i hu; exact (h1 _ hu).elim
      · rename_i hu; exact (h2 _ _ hu).elim
      · cases ha
  | false =>
    rw [h] at ha
    have hna : ∀ cs, v ≠ .agg cs := by
      rintro cs rfl
      unfold Value.okWide at hok
      split at hok
      · rename_i hu; simp [hu] at ha
      · rename_i hu; simp [hu] at ha
      · unfold Cell.okWide at hok
        split at hok <;> try (rename_i hh; cases hh; done)
        unfold Cell.ok at hok
        split at hok <;> first | exact hok | (rename_i hh; cases hh)
    cases v <;> first | rfl | exact (hna _ rfl).elim

/-- The types of parameters. -/
def tysD (τ : Tys) : List TypeId → Option (List GTy)
  | [] => some []
  | t :: ts => match τ t, tysD τ ts with
    | some i, some gs => some (i.g :: gs)
    | _, _ => none

theorem trodAll_enc (TOK : TysOK P τ) {base : Nat} : ∀ {ts : List TypeId} {gs : List GTy} {vs : List Value} {ds : List (DataW H)} {ps : List MemPlace}, tysD τ ts = some gs → DataW.TrodAll enc P w 0 (fun _ => true) true ts vs ds ps → bulkAll ds ≤ 1048576 →
    (∀ (j : Nat) t v, ts[j]? = some t → vs[j]? = some v → Value.okWide P w .any base t v) → ∃ x, EncD w (allS w) gs x vs ∧ smallD gs x
  | [], gs, vs, ds, ps, hg, h, _, _ => by
    simp only [tysD, Option.some.injEq] at hg
    subst hg
    obtain ⟨rfl, _, _⟩ := ChangeShapes.trodAll_nil h
    exact ⟨(), rfl, trivial⟩
  | t :: ts, gs, vs, ds, ps, hg, h, hb, hok => by
    simp only [tysD] at hg
    split at hg
    · rename_i i gs' hi hgs
      simp only [Option.some.injEq] at hg
      subst hg
      obtain ⟨v, vs', d, ds', p, q, rfl, rfl, rfl, ⟨fuel, h1⟩, h2⟩ := ChangeShapes.trodAll_cons h
      simp only [bulkAll] at hb
      obtain ⟨x, hx, hsx⟩ := trod_enc TOK fuel t i _ _ hi h1 (by simp only; omega)
      obtain ⟨y, hy, hsy⟩ := trodAll_enc TOK (base := base) hgs h2 (by omega) (fun j t v h3 h4 => hok (j + 1) t v (by simpa using h3) (by simpa using h4))
      have hv := val_of_ok TOK hi (hok 0 t v rfl rfl) hx.len
      cases gs' with
      | nil =>
        have hvs : vs' = [] := hy
        subst hvs
        exact ⟨x, ⟨_, hx, by rw [← hv]⟩, hsx⟩
      | cons g' gs' => exact ⟨(x, y), ⟨_, vs', hx, by rw [← hv], hy⟩, hsx, hsy⟩
    · cases hg

theorem trodAll_stays (hl : laidOutB P = true) {W W' : World} (hb : RowKit.Below W.heap.size W W') {sp : Nat → Bool} : ∀ {ts : List TypeId} {vs : List Value} {ds : List (DataW H)} {ps : List MemPlace}, (∀ t ∈ ts, P.readableRec t = true ∧ t < P.types.size) →
    DataW.TrodAll enc P W 0 (fun _ => true) true ts vs ds ps → (∀ p ∈ ps, p.block < W.heap.size) → (∀ p ∈ ps, sp p.block = true) → DataW.TrodAll enc P W' 0 sp true ts vs ds ps
  | [], vs, ds, ps, _, h, _, _ => by
    obtain ⟨rfl, rfl, rfl⟩ := ChangeShapes.trodAll_nil h
    exact ChangeShapes.trodAll_mk0
  | t :: ts, vs, ds, ps, hr, h, hlt, hs => by
    obtain ⟨v, vs', d, ds', p, q, rfl, rfl, rfl, h1, h2⟩ := ChangeShapes.trodAll_cons h
    refine trodAll_cons_mk (WideElems.Trod_stays hl (hr t (by simp)).1 (hr t (by simp)).2 h1 (fun x hx => hb.same (hlt x (by simp [hx]))) (fun x hx => hs x (by simp [hx]))) ?_
    exact trodAll_stays hl hb (fun t ht => hr t (by simp [ht])) h2 (fun p hp => hlt p (by simp [hp])) (fun p hp => hs p (by simp [hp]))

theorem kept_of_grows {W W' : World} (h : Grows W W') (may : MemPlace → Prop) : W.keptBut W' may := by
  refine ⟨h.os, h.output, fun i hi => ?_⟩
  rw [h.block i hi]
  cases hh : W.heap[i]? with
  | none => trivial
  | some o => cases o <;> simp

theorem frozen_of_grows {W W' : World} (h : Grows W W') {b off : Nat} (hb : b < W.heap.size) : W'.frozen? ⟨b, off, none⟩ = W.frozen? ⟨b, off, none⟩ := by
  simp [World.frozen?, h.block b hb]

/-- A law that always answers 'true', as its row asks. -/
theorem law_contract (hl : laidOutB P = true) (TOK : TysOK P τ) {f : Nat} {fn : Func} {gs : List GTy} (hts : tysD τ fn.params.toList = some gs) (hread' : (fn.params.toList.all fun t => P.readableRec t && Nat.blt t P.types.size) = true)
    {tb : TypeId} (hr : fn.resultTypes = #[tb]) (htb : P.underlying tb = some .bool) (hc : CtrOK P f { args := gs, res := [.bool], pre := some (smallD gs), fn := fun _ => true })
    {s : ChangeSpec} (hvars : s.vars = []) (hs : ∀ ds : List (DataW H), ds.length = fn.params.toList.length → s.fn H ds = ⟨[.lit (.bool true)], ds, []⟩) {apart fresh handsOn again : Bool} {W : World} {base : Nat} {args : Array Value} {ds es : List (DataW H)} {before : List MemPlace}
    (hval : ∀ (j : Nat) t v, fn.params[j]? = some t → args[j]? = some v → Value.okWide P W .any base t v) (hW : DataW.Whole enc P fn.params.toList s.vars apart W args.toList ds es before) (hb' : bulkAll (ds ++ es) ≤ 1048576) (hT : Tab (allS W) W) :
    Calls P f args W fun e W' => ∃ v, e = .returned v ∧ s.post enc P fn apart fresh handsOn again W args v W' := by
  have hW' := hW
  obtain ⟨p, q, hA, hV, rfl, hfz, hnd⟩ := hW
  rw [hvars] at hV
  obtain ⟨rfl, rfl⟩ := trodVars_none hV
  have hb : bulkAll ds ≤ 1048576 := by rw [List.append_nil] at hb'; exact hb'
  have hread : ∀ t ∈ fn.params.toList, P.readableRec t = true ∧ t < P.types.size := by
    intro t ht
    have := List.all_eq_true.1 hread' t ht
    simp only [Bool.and_eq_true] at this
    exact ⟨this.1, by simpa [Nat.blt_eq] using this.2⟩
  obtain ⟨x, hx, hsm⟩ := trodAll_enc TOK (base := base) hts hA hb (fun j t v h1 h2 => hval j t v (by simpa using h1) (by simpa using h2))
  have hcall := hc.2 W (allS W) args.toList x (fun b o h => h) hT hx (fun p hp => by simp only [Option.some.injEq] at hp; subst hp; exact hsm)
  simp only [Array.toArray_toList] at hcall
  refine hcall.mono ?_
  rintro e W' ⟨v, he, hg, N, hN, us, ⟨cs, hcs, hus⟩, hv⟩
  subst hus
  simp only at hv
  have hcs' : cs = [.bool true] := hcs
  subst hcs'
  have hv' : v = .bool true := hv
  subst hv'
  have hlt : ∀ x ∈ p, x.block < W.heap.size := fun y hy => hW'.lt y (by simp [hy])
  have hbel : RowKit.Below W.heap.size W W' := ⟨hg.os, hg.tape, hg.output, hg.size, hg.block⟩
  have hlen := (trodAll_length hA).2
  have hfn : s.fn H (ds ++ []) = ⟨[.lit (.bool true)], ds, []⟩ := by
    rw [List.append_nil]; exact hs ds hlen
  have hres : ∀ (b : Nat) (sp : Nat → Bool) (hd : Bool), DataW.TrodAll enc P W' b sp hd fn.resultTypes.toList ((Value.bool true).resultList fn.resultTypes.size) [.lit (.bool true)] [] := by
    intro b sp hd
    rw [hr]
    exact ⟨[], [], shut_bool htb true, trodAll_mk0, rfl⟩
  have hargs : ∀ sp : Nat → Bool, (∀ x ∈ p, sp x.block = true) → DataW.TrodAll enc P W' 0 sp true fn.params.toList args.toList ds p := fun sp hsp => trodAll_stays hl hbel hread hA hlt hsp
  refine ⟨_, he, ds, [], p ++ [], [], p, [], hW', ?_, ?_, ?_, kept_of_grows hg _, fun _ => ⟨ok_one hr rfl (okWide_bool_mk htb _), _, [], ([] ++ p) ++ [], ⟨[] ++ p, [], trodAll_append (hargs _ (fun _ _ => rfl)) (hres _ _ _), ?_, rfl, ?_, ?_⟩, ?_⟩⟩
  · rw [hfn]; exact hres _ _ _
  · rw [hfn]; exact hargs _ (fun x hx => by simpa using hlt x hx)
  · rw [hfn, hvars]; rfl
  · rw [hvars]; rfl
  · intro b off hm
    have hm' : MemPlace.cell b off ∈ p := by simpa using hm
    have hb' : b < W.heap.size := hlt _ hm'
    rw [frozen_of_grows hg hb']
    exact hfz b off (by simpa using hm')
  · intro ha
    have := hnd ha
    simpa using this
  · intro x hx _
    simpa using hx
end
end Go.Ev
/-
  DERIVED: THE SHELF's CONTRACTS AT THIS DUMP, IN PLAIN WORDS (tools/lay-plain.mjs out of 'TrydLibA.lean', which tools/lay-shelf.mjs wrote): THE SAME DECLARATIONS UNDER THE SAME NAMES: 'import', 'namespace', 'open', 'def', 'theorem' AND NOTHING ELSE: no command of the shelf's: FOR A HAND-IN. Each laying: the table of numbers ('.._ren') and one theorem, a field a fact of the dump's own or the kernel's comparison; each contract: ONE APPLICATION.
-/
namespace Go.Proofs
open Go.Shelf
def Tryd.lays169_ren : Go.Shelf.Ren := ⟨fun | 169 => 113 | n => n, fun | 70 => 110 | 9 => 9 | 0 => 0 | 72 => 113 | 37 => 111 | 127 => 141 | 3 => 3 | 5 => 5 | n => n, fun | n => n⟩
theorem Tryd.lays169 : Go.Proofs.Lays.n169 Tryd.prog Tryd.lays169_ren := {
  mixed := by kernel_rfl
  f169 := Tryd.func113.trans (congrArg some (by kernel_rfl))
  t0 := Tryd.underlying0
  a0 := Tryd.isAgg0
  z0 := Tryd.sizeOf0
  v0 := Tryd.zeroValue0
  t3 := Tryd.underlying3
  a3 := Tryd.isAgg3
  z3 := Tryd.sizeOf3
  v3 := Tryd.zeroValue3
  t9 := Tryd.underlying9
  a9 := Tryd.isAgg9
  z9 := Tryd.sizeOf9
  v9 := Tryd.zeroValue9
  t37 := Tryd.underlying111
  a37 := Tryd.isAgg111
  z37 := Tryd.sizeOf111
  v37 := Tryd.zeroValue111
  t70 := Tryd.underlying110
  a70 := Tryd.isAgg110
  z70 := Tryd.sizeOf110
  v70 := Tryd.zeroValue110
  t72 := Tryd.underlying113
  a72 := Tryd.isAgg113
  z72 := Tryd.sizeOf113
  v72 := Tryd.zeroValue113
  t127 := Tryd.underlying141
  a127 := Tryd.isAgg141
  z127 := Tryd.sizeOf141
  v127 := Tryd.zeroValue141 }
theorem Tryd.Builder_Extra_169 : Builder.Extra Tryd.prog Tryd.lays169_ren := {
  sizeBuilder := by kernel_rfl
  liesBuilder := by kernel_rfl
  t5 := Tryd.underlying5
  a5 := Tryd.isAgg5
  z5 := Tryd.sizeOf5
  v5 := Tryd.zeroValue5
  infoByte := by kernel_rfl
  cellsByte := by kernel_rfl
  sizeByte := by kernel_rfl
  neB5 := by decide }
open Go.RowKit in
/-- (*strings.Builder).String: "String returns the accumulated string.": WHATEVER THE BUILDER HOLDS. (LAID: no walk: one application.) -/
theorem Tryd.Builder_String_any (B b : Nat) (l : List UInt8) (w : World) (h : Lib.IsBuilder 113 5 B b (Lib.byteCells l) w) (hBw : B ≤ w.heap.size) :
    Calls Tryd.prog 113 #[.pointer (some ⟨b, 0, none⟩)] w fun e w' => e = .returned (.string ⟨l.toArray⟩) ∧ Below B w w' := Any.Builder_String_any Tryd.lays169 Tryd.Builder_Extra_169 B b l w h hBw
def Tryd.lays283_ren : Go.Shelf.Ren := ⟨fun | 283 => 159 | n => n, fun | 3 => 3 | 9 => 9 | 4 => 4 | n => n, fun | n => n⟩
theorem Tryd.lays283 : Go.Proofs.Lays.n283 Tryd.prog Tryd.lays283_ren := {
  mixed := by kernel_rfl
  f283 := Tryd.func159.trans (congrArg some (by kernel_rfl))
  t3 := Tryd.underlying3
  a3 := Tryd.isAgg3
  z3 := Tryd.sizeOf3
  v3 := Tryd.zeroValue3
  t4 := Tryd.underlying4
  a4 := Tryd.isAgg4
  z4 := Tryd.sizeOf4
  v4 := Tryd.zeroValue4
  t9 := Tryd.underlying9
  a9 := Tryd.isAgg9
  z9 := Tryd.sizeOf9
  v9 := Tryd.zeroValue9 }
open Go.Lib in
/-- internal/strconv.small: "small returns the string for an i with 0 <= i < nSmalls.": i's decimal numeral. The world is as it was. (LAID: no walk: one application.) -/
theorem Tryd.internal_strconv_small (i : Nat) (h : i < 100) (w : World) :
    Calls Tryd.prog 159 #[.int .i64 i] w fun e w' => e = .returned (.string ⟨(Lib.decDigits i).toArray⟩) ∧ w' = w := Any.internal_strconv_small Tryd.lays283 i h w
def Tryd.laysM284_ren : Go.Shelf.Ren := ⟨fun | 284 => 160 | 129 => 177 | 317 => 176 | 318 => 178 | n => n, fun | 53 => 44 | 3 => 3 | 212 => 165 | 0 => 0 | 4 => 4 | 46 => 46 | 5 => 5 | 9 => 9 | n => n, fun | 17 => 0 | n => n⟩
theorem Tryd.laysM284 : Go.Proofs.LaysM.n284 Tryd.prog Tryd.laysM284_ren := {
  mixed := by kernel_rfl
  f129 := Tryd.func177.trans (congrArg some (by kernel_rfl))
  f284 := Tryd.func160.trans (congrArg some (by kernel_rfl))
  f317 := Tryd.func176.trans (congrArg some (by kernel_rfl))
  f318 := Tryd.func178.trans (congrArg some (by kernel_rfl))
  t0 := Tryd.underlying0
  a0 := Tryd.isAgg0
  z0 := Tryd.sizeOf0
  v0 := Tryd.zeroValue0
  t3 := Tryd.underlying3
  a3 := Tryd.isAgg3
  z3 := Tryd.sizeOf3
  v3 := Tryd.zeroValue3
  t4 := Tryd.underlying4
  a4 := Tryd.isAgg4
  z4 := Tryd.sizeOf4
  v4 := Tryd.zeroValue4
  t5 := Tryd.underlying5
  a5 := Tryd.isAgg5
  z5 := Tryd.sizeOf5
  v5 := Tryd.zeroValue5
  t9 := Tryd.underlying9
  a9 := Tryd.isAgg9
  z9 := Tryd.sizeOf9
  v9 := Tryd.zeroValue9
  t46 := Tryd.underlying46
  a46 := Tryd.isAgg46
  z46 := Tryd.sizeOf46
  v46 := Tryd.zeroValue46
  t53 := Tryd.underlying44
  a53 := Tryd.isAgg44
  z53 := Tryd.sizeOf44
  v53 := Tryd.zeroValue44
  t212 := Tryd.underlying165
  a212 := Tryd.isAgg165
  z212 := Tryd.sizeOf165
  v212 := Tryd.zeroValue165
  g17 := by kernel_rfl
  i0 := by kernel_rfl
  i3 := by kernel_rfl
  i4 := by kernel_rfl
  i5 := by kernel_rfl
  i9 := by kernel_rfl
  i46 := by kernel_rfl
  i53 := by kernel_rfl
  i212 := by kernel_rfl
  m17 := by kernel_rfl }
open Go.Lib in
/-- internal/strconv.numDigits, at a d that is not 0: THE NUMBER OF d's DECIMAL DIGITS. The world is as it was. (LAID: no walk: one application.) -/
theorem Tryd.internal_strconv_numDigits (u : Nat) (h1 : 1 ≤ u) (h2 : u < 18446744073709551616) (w : World) (htab : Lib.TabIs Tryd.prog w "internal/strconv.uint64pow10" .u64 Lib.pow10Tab) :
    Calls Tryd.prog 160 #[.int .u64 u] w fun e w' => e = .returned (.int .i64 (Lib.nDigits u)) ∧ w' = w := Any.internal_strconv_numDigits Tryd.laysM284 u h1 h2 w htab
def Tryd.lays285_ren : Go.Shelf.Ren := ⟨fun | 285 => 161 | n => n, fun | 37 => 111 | 53 => 44 | 3 => 3 | 4 => 4 | 51 => 33 | 9 => 9 | 5 => 5 | 0 => 0 | n => n, fun | n => n⟩
theorem Tryd.lays285 : Go.Proofs.Lays.n285 Tryd.prog Tryd.lays285_ren := {
  mixed := by kernel_rfl
  f285 := Tryd.func161.trans (congrArg some (by kernel_rfl))
  t0 := Tryd.underlying0
  a0 := Tryd.isAgg0
  z0 := Tryd.sizeOf0
  v0 := Tryd.zeroValue0
  t3 := Tryd.underlying3
  a3 := Tryd.isAgg3
  z3 := Tryd.sizeOf3
  v3 := Tryd.zeroValue3
  t4 := Tryd.underlying4
  a4 := Tryd.isAgg4
  z4 := Tryd.sizeOf4
  v4 := Tryd.zeroValue4
  t5 := Tryd.underlying5
  a5 := Tryd.isAgg5
  z5 := Tryd.sizeOf5
  v5 := Tryd.zeroValue5
  t9 := Tryd.underlying9
  a9 := Tryd.isAgg9
  z9 := Tryd.sizeOf9
  v9 := Tryd.zeroValue9
  t37 := Tryd.underlying111
  a37 := Tryd.isAgg111
  z37 := Tryd.sizeOf111
  v37 := Tryd.zeroValue111
  t51 := Tryd.underlying33
  a51 := Tryd.isAgg33
  z51 := Tryd.sizeOf33
  v51 := Tryd.zeroValue33
  t53 := Tryd.underlying44
  a53 := Tryd.isAgg44
  z53 := Tryd.sizeOf44
  v53 := Tryd.zeroValue44 }
open Go.RowKit Go.Sort Go.Lib in
/-- internal/strconv.formatBase10: "formatBase10 formats the decimal representation of u into a. The caller is responsible for ensuring that a is big enough to hold u. If a is too big, leading zeros will be filled in as needed.": THE ROW HOLDS u's DIGITS ('FmtInv .. 0 ..': every place t holds 'dg u (len - 1 - t)'); all else is as it was but for the count of draws. (LAID: no walk: one application.) -/
theorem Tryd.internal_strconv_formatBase10 (blk off cap : Nat) (u : Nat) (d : Array UInt8) (w : World) (hH : Holds (fun (b : UInt8) => Value.int .u8 (b.toNat : Int)) w blk off d) (hu : u < 10 ^ d.size) (hu64 : u < 18446744073709551616) (hsz : d.size < 4611686018427387904) :
    Calls Tryd.prog 161 #[.slice (some ⟨blk, off, none⟩) d.size cap, .int .u64 u] w fun e w' =>
      e = .returned (.tuple #[]) ∧ ∃ (n v' : Nat) (dk : Array UInt8), w' = (putRow (fun (b : UInt8) => Value.int .u8 (b.toNat : Int)) w blk off dk).drewN n ∧ FmtInv d.size u 0 v' dk := Any.internal_strconv_formatBase10 Tryd.lays285 blk off cap u d w hH hu hu64 hsz
def Tryd.laysM171_ren : Go.Shelf.Ren := ⟨fun | 171 => 96 | 243 => 139 | 246 => 158 | 283 => 159 | 284 => 160 | 285 => 161 | 286 => 162 | 129 => 177 | 317 => 176 | 318 => 178 | 319 => 179 | 320 => 143 | 337 => 164 | 338 => 165 | n => n, fun | 3 => 3 | 9 => 9 | 2 => 2 | 4 => 4 | 171 => 152 | 0 => 0 | 53 => 44 | 37 => 111 | 5 => 5 | 173 => 154 | 212 => 165 | 51 => 33 | 20 => 20 | 213 => 166 | 46 => 46 | 232 => 167 | 233 => 168 | n => n, fun | 17 => 0 | 18 => 1 | 19 => 2 | n => n⟩
theorem Tryd.laysM171 : Go.Proofs.LaysM.n171 Tryd.prog Tryd.laysM171_ren := {
  mixed := by kernel_rfl
  f129 := Tryd.func177.trans (congrArg some (by kernel_rfl))
  f171 := Tryd.func96.trans (congrArg some (by kernel_rfl))
  f243 := Tryd.func139.trans (congrArg some (by kernel_rfl))
  f246 := Tryd.func158.trans (congrArg some (by kernel_rfl))
  f283 := Tryd.func159.trans (congrArg some (by kernel_rfl))
  f284 := Tryd.func160.trans (congrArg some (by kernel_rfl))
  f285 := Tryd.func161.trans (congrArg some (by kernel_rfl))
  f286 := Tryd.func162.trans (congrArg some (by kernel_rfl))
  f317 := Tryd.func176.trans (congrArg some (by kernel_rfl))
  f318 := Tryd.func178.trans (congrArg some (by kernel_rfl))
  f319 := Tryd.func179.trans (congrArg some (by kernel_rfl))
  f320 := Tryd.func143.trans (congrArg some (by kernel_rfl))
  f337 := Tryd.func164.trans (congrArg some (by kernel_rfl))
  f338 := Tryd.func165.trans (congrArg some (by kernel_rfl))
  t0 := Tryd.underlying0
  a0 := Tryd.isAgg0
  z0 := Tryd.sizeOf0
  v0 := Tryd.zeroValue0
  t2 := Tryd.underlying2
  a2 := Tryd.isAgg2
  z2 := Tryd.sizeOf2
  v2 := Tryd.zeroValue2
  t3 := Tryd.underlying3
  a3 := Tryd.isAgg3
  z3 := Tryd.sizeOf3
  v3 := Tryd.zeroValue3
  t4 := Tryd.underlying4
  a4 := Tryd.isAgg4
  z4 := Tryd.sizeOf4
  v4 := Tryd.zeroValue4
  t5 := Tryd.underlying5
  a5 := Tryd.isAgg5
  z5 := Tryd.sizeOf5
  v5 := Tryd.zeroValue5
  t9 := Tryd.underlying9
  a9 := Tryd.isAgg9
  z9 := Tryd.sizeOf9
  v9 := Tryd.zeroValue9
  t20 := Tryd.underlying20
  a20 := Tryd.isAgg20
  z20 := Tryd.sizeOf20
  v20 := Tryd.zeroValue20
  t37 := Tryd.underlying111
  a37 := Tryd.isAgg111
  z37 := Tryd.sizeOf111
  v37 := Tryd.zeroValue111
  t46 := Tryd.underlying46
  a46 := Tryd.isAgg46
  z46 := Tryd.sizeOf46
  v46 := Tryd.zeroValue46
  t51 := Tryd.underlying33
  a51 := Tryd.isAgg33
  z51 := Tryd.sizeOf33
  v51 := Tryd.zeroValue33
  t53 := Tryd.underlying44
  a53 := Tryd.isAgg44
  z53 := Tryd.sizeOf44
  v53 := Tryd.zeroValue44
  t171 := Tryd.underlying152
  a171 := Tryd.isAgg152
  z171 := Tryd.sizeOf152
  v171 := Tryd.zeroValue152
  t173 := Tryd.underlying154
  a173 := Tryd.isAgg154
  z173 := Tryd.sizeOf154
  v173 := Tryd.zeroValue154
  t212 := Tryd.underlying165
  a212 := Tryd.isAgg165
  z212 := Tryd.sizeOf165
  v212 := Tryd.zeroValue165
  t213 := Tryd.underlying166
  a213 := Tryd.isAgg166
  z213 := Tryd.sizeOf166
  t232 := Tryd.underlying167
  a232 := Tryd.isAgg167
  z232 := Tryd.sizeOf167
  v232 := Tryd.zeroValue167
  t233 := Tryd.underlying168
  a233 := Tryd.isAgg168
  z233 := Tryd.sizeOf168
  v233 := Tryd.zeroValue168
  g17 := by kernel_rfl
  g18 := by kernel_rfl
  g19 := by kernel_rfl
  i0 := by kernel_rfl
  i2 := by kernel_rfl
  i3 := by kernel_rfl
  i4 := by kernel_rfl
  i5 := by kernel_rfl
  i9 := by kernel_rfl
  i20 := by kernel_rfl
  i37 := by kernel_rfl
  i46 := by kernel_rfl
  i51 := by kernel_rfl
  i53 := by kernel_rfl
  i171 := by kernel_rfl
  i173 := by kernel_rfl
  i212 := by kernel_rfl
  i232 := by kernel_rfl
  i233 := by kernel_rfl
  m17 := by kernel_rfl
  m18 := by kernel_rfl
  m19 := by kernel_rfl }
open Go.RowKit Go.Sort Go.Lib in
/-- strconv.Itoa: "Itoa is equivalent to FormatInt(int64(i), 10).": i's DECIMAL NUMERAL ('Lib.itoa': a '-' where i is negative, then the digits), FOR EVERY int. The world behind the call: the world before it, new blocks behind the heap (the library's 'var a [24]byte'), draws. (LAID: no walk: one application.) -/
theorem Tryd.strconv_Itoa (n : Int) (h0 : -9223372036854775808 ≤ n) (h1 : n ≤ 9223372036854775807) (w : World) (htab : Lib.TabIs Tryd.prog w "internal/strconv.uint64pow10" .u64 Lib.pow10Tab) :
    Calls Tryd.prog 96 #[.int .i64 n] w fun e w' => e = .returned (.string ⟨(Lib.itoa n).toArray⟩) ∧ ∃ k os, w' = grow (w.drewN k) os := Any.strconv_Itoa Tryd.laysM171 n h0 h1 w htab
end Go.Proofs
/- Numerals: the library's contract, as one of ours. -/
set_option linter.unusedVariables false
set_option linter.unusedSimpArgs false
namespace Go.Ev.D
open Go.Proofs
theorem pow_tab {S : Stab} {w : World} (h : Tab S w) : Lib.TabIs Tryd.prog w "internal/strconv.uint64pow10" .u64 Lib.pow10Tab := by
  have h0 := fun o => (h.1 (0, Lib.pow10Tab.map fun z => Value.int .u64 z) (List.mem_cons_self ..) o).2
  have hg : Tryd.prog.globalNamed "internal/strconv.uint64pow10" = some 0 := by kernel_rfl
  unfold Lib.TabIs World.var?
  rw [hg]
  simp only [Option.bind_some]
  have h1 := h0 0
  have e1 : (Lib.pow10Tab.map fun z => Value.int IntKind.u64 z)[0]? = some (.int .u64 1) := by simp [Lib.pow10Tab]
  simp only at h0 h1
  rw [e1] at h1
  cases hb : w.heap[0]? with
  | none => simp [World.cell?, hb] at h1
  | some o =>
    cases o with
    | cells cs t fr =>
      simp only
      congr 1
      apply Array.ext_getElem?
      intro i
      have := h0 i
      simp only [World.cell?, hb] at this
      simpa using this
    | _ => simp [World.cell?, hb] at h1
def itoaC : Ctr := { args := [.int .i64], res := [.str], pre := none, fn := fun (x : Int) => itoaF x }
theorem itoa_ok : CtrOK Tryd.prog 96 itoaC := by
  refine ⟨⟨_, fnOf_eq (by kernel_rfl), by kernel_rfl, by kernel_rfl⟩, ?_⟩
  intro w S us (x : Int) hS hT henc _
  obtain ⟨cs, h1, rfl⟩ := henc
  obtain ⟨rfl, h2⟩ : cs = [.int .i64 x] ∧ IntKind.i64.has x := h1
  rw [has_i64] at h2
  refine (Tryd.strconv_Itoa x h2.1 h2.2 w (pow_tab hT)).mono ?_
  rintro e w' ⟨rfl, k, os, rfl⟩
  refine ⟨_, rfl, ⟨rfl, rfl, rfl, by simp [Go.Sort.grow], fun k hk => by simp [Go.Sort.grow, Array.getElem?_append_left hk]⟩, fun _ _ => False, fun _ _ h => h.elim, [_], ⟨[.string ⟨⟨itoaF x⟩⟩], ⟨rfl, by have := itoaF_len x; show (itoaF x).length ≤ maxStr; unfold maxStr; omega⟩, rfl⟩, ?_⟩
  rw [itoa_eq h2.1 h2.2]
  rfl
end Go.Ev.D
/- FormatUint at base ten: the code of the library, beside the evaluator. -/
set_option linter.unusedVariables false
set_option linter.unusedSimpArgs false
namespace Go.Ev.D
open Go.Proofs Go.Conc Go.Sort Go.Lib
theorem natT_dec {u : Nat} (h : u < 18446744073709551616) : Lib.decDigits u = natT u := decDigits_digN 20 u (by omega) (by omega)
theorem natT_len (u : Nat) : (natT u).length ≤ 20 := digN_len 20 u
def smallC : Ctr := { args := [.int .i64], res := [.str], pre := some (fun (x : Int) => 0 ≤ x ∧ x < 100), fn := fun (x : Int) => natT x.toNat }
theorem small_ok : CtrOK Tryd.prog 159 smallC := by
  refine ⟨⟨_, fnOf_eq (by kernel_rfl), by kernel_rfl, by kernel_rfl⟩, ?_⟩
  intro w S us (x : Int) hS hT henc hpre
  obtain ⟨h0, h1⟩ : 0 ≤ x ∧ x < 100 := hpre _ rfl
  obtain ⟨cs, h2, rfl⟩ := henc
  obtain ⟨rfl, h3⟩ : cs = [.int .i64 x] ∧ IntKind.i64.has x := h2
  obtain ⟨i, rfl⟩ := Int.eq_ofNat_of_zero_le h0
  refine (Tryd.internal_strconv_small i (by omega) w).mono ?_
  rintro e w' ⟨rfl, rfl⟩
  refine ⟨_, rfl, Grows.refl _, fun _ _ => False, fun _ _ h => h.elim, [_], ⟨[.string ⟨⟨natT i⟩⟩], ⟨rfl, by have := natT_len i; show (natT i).length ≤ maxStr; unfold maxStr; omega⟩, rfl⟩, ?_⟩
  rw [natT_dec (by omega)]
  rfl
def ndC : Ctr := { args := [.int .u64], res := [.int .i64], pre := some (fun (x : Int) => 1 ≤ x), fn := fun (x : Int) => (Lib.nDigits x.toNat : Int) }
theorem nd_small {u : Nat} (h1 : 1 ≤ u) (h2 : u < 18446744073709551616) : Lib.nDigits u ≤ 20 := by
  have := Lib.numDigits_eq u h1 h2
  split at this <;> omega
theorem nd_ok : CtrOK Tryd.prog 160 ndC := by
  refine ⟨⟨_, fnOf_eq (by kernel_rfl), by kernel_rfl, by kernel_rfl⟩, ?_⟩
  intro w S us (x : Int) hS hT henc hpre
  have h1 : 1 ≤ x := hpre _ rfl
  obtain ⟨cs, h2, rfl⟩ := henc
  obtain ⟨rfl, h3⟩ : cs = [.int .u64 x] ∧ IntKind.u64.has x := h2
  rw [has_u64] at h3
  obtain ⟨u, rfl⟩ := Int.eq_ofNat_of_zero_le h3.1
  have h4 := nd_small (u := u) (by omega) (by omega)
  refine (Tryd.internal_strconv_numDigits u (by omega) (by omega) w (pow_tab hT)).mono ?_
  rintro e w' ⟨rfl, rfl⟩
  exact ⟨_, rfl, Grows.refl _, fun _ _ => False, fun _ _ h => h.elim, [_], ⟨[.int .i64 (Lib.nDigits u)], ⟨rfl, by show IntKind.i64.has (Lib.nDigits u : Int); rw [has_i64]; omega⟩, rfl⟩, rfl⟩
noncomputable def fuC : Code := rThen (rNth (bodyOf (fnOf Tryd.prog 140)) 2)
noncomputable def fuB (i : Nat) : Code := rNth (bodyOf (fnOf Tryd.prog 140)) i
noncomputable def fuI (i : Nat) : Code := rNth fuC i
def fuG : List (Nat × Ctr) := [(159, smallC), (160, ndC)]
theorem fuG_ok : CtrsOK Tryd.prog (fun f => lk f fuG) := ctrs_cons small_ok (ctrs_cons nd_ok ctrs_nil)
@[reducible] def fuT1 : List (Nat × Sh) := [(0, .val (.int .u64)), (10, .val .bool)]
@[reducible] def fuT0 : List (Nat × Sh) := [(0, .val (.int .u64))]
@[reducible] def fuT6 : List (Nat × Sh) := [(0, .val (.int .u64)), (6, .val (.int .i64))]
@[reducible] def fuT18 : List (Nat × Sh) := [(0, .val (.int .u64)), (6, .val (.int .i64)), (18, .val (.int .i64))]
@[reducible] def fuT20 : List (Nat × Sh) := [(6, .val (.int .i64)), (20, .val (.int .u64))]
@[reducible] def fuT22 : List (Nat × Sh) := [(22, .val (.int .i64))]
theorem fu0_tree : (fun x : Int × Int => pieceT (mkC tys [] []) (fnOf Tryd.prog 140) [.str] fuT1 [] [fuB 0, fuB 1] { tmps := number 0 (resL [.int .u64, .int .i64] x), boxes := [] }) =
  (fun x => Tree.leaf (none, some ((x.1, x.2 == (10 : Int), ()), ()))) := by kernel_rfl
theorem fu2_tree : (fun x : (Int × Unit) × Unit => pieceT (mkC tys fuG []) (fnOf Tryd.prog 140) [.str] fuT0 [] [fuI 0, fuI 1] (mkS fuT0 [] x)) =
  (fun x =>
    Tree.br (decide (x.1.1 < (100 : Int)))
      (Tree.need ((0 : Int) ≤ IntKind.wrap IntKind.i64 x.1.1 ∧ IntKind.wrap IntKind.i64 x.1.1 < (100 : Int)) (Tree.leaf (some (natT (Int.toNat (IntKind.wrap IntKind.i64 x.1.1))), none)))
      (Tree.leaf (none, some ((x.1.1, ()), ())))) := by kernel_rfl
theorem fu5_tree : (fun x : (Int × Unit) × Unit => pieceT (mkC tys fuG []) (fnOf Tryd.prog 140) [.str] fuT6 [] [fuI 3] (mkS fuT0 [] x)) =
  (fun x => Tree.need ((1 : Int) ≤ x.1.1) (Tree.leaf (none, some ((x.1.1, (↑(nDigits (Int.toNat x.1.1)) : Int), ()), ())))) := by kernel_rfl
theorem fu6_tree : (fun x : (Int × Int × Unit) × Unit => opsT (mkC tys [] []) fuT18 [] [rOp (fuI 4) 0] (mkS fuT6 [] x)) =
  (fun x => Tree.leaf (some ((x.1.1, x.1.2.1, x.1.2.1, ()), ()))) := by kernel_rfl
theorem fu7_tree : (fun x : (Int × Int × Int × Unit) × Unit => opsT (mkC tys [] []) fuT20 [] [rOp (fuI 4) 2] (mkS fuT18 [] x)) =
  (fun x => Tree.leaf (some ((x.1.2.1, x.1.1, ()), ()))) := by kernel_rfl
theorem fu8_tree : (fun x : (Int × Int × Unit) × Unit => opsT (mkC tys [] []) fuT22 [] [rOp (fuI 5) 0] (mkS fuT20 [] x)) =
  (fun x => Tree.leaf (some ((x.1.1, ()), ()))) := by kernel_rfl
theorem fu9_tree : (fun x : (List UInt8 × Unit) × Unit => opsT (mkC tys [] []) [(4, .val .str)] [] [rOp (fuI 5) 3] (mkS [(24, .val .str)] [] x)) =
  (fun x => Tree.leaf (some ((x.1.1, ()), ()))) := by kernel_rfl
end Go.Ev.D
/- FormatUint at base ten keeps its contract. -/
set_option linter.unusedVariables false
set_option linter.unusedSimpArgs false
namespace Go.Ev.D
open Go.Proofs Go.Conc Go.Sort Go.Lib
theorem fu_all : seqs (bodyOf (fnOf Tryd.prog 140)) = [fuB 0, fuB 1, fuB 2, fuB 3, fuB 4, fuB 5] := by kernel_rfl
theorem fu_2 : fuB 2 = .cond (.tmp 10) fuC .skip := by kernel_rfl
theorem fu_in : seqs fuC = [fuI 0, fuI 1, fuI 2, fuI 3, fuI 4, fuI 5, fuI 6] := by kernel_rfl
theorem fu_i2 : fuI 2 = .region 4 (rOps (fuI 2)) false := by kernel_rfl
theorem fu_i4 : fuI 4 = .region 6 (rOps (fuI 4)) false := by kernel_rfl
theorem fu_i5 : fuI 5 = .region 7 (rOps (fuI 5)) false := by kernel_rfl
theorem fu_i6 : fuI 6 = .ret := by kernel_rfl
theorem fu_n : (fnOf Tryd.prog 140).ntmps = 32 := by kernel_rfl
theorem fb_body : (fnOf Tryd.prog 161).body.isNone = false := by kernel_rfl
theorem fb_name : ((fnOf Tryd.prog 161).name == "runtime.NumGoroutine") = false := by kernel_rfl
theorem fb_fn : Tryd.prog.funcs[161]? = some (fnOf Tryd.prog 161) := fnOf_eq (by kernel_rfl)
theorem fu_arr : tys 152 = some ⟨.arr 24 (.int .u8), 0, 24, 0⟩ := by kernel_rfl
theorem fu_len : Tryd.prog.arrayLen 152 = 24 := by kernel_rfl
theorem fu_elem : Tryd.prog.elem 152 = 5 := by kernel_rfl
theorem fu_under : Tryd.prog.underlying 152 = some (.array (Tryd.prog.arrayLen 152) (Tryd.prog.elem 152)) := by kernel_rfl
theorem fu_zero : (zeroCells (.arr 24 (.int .u8))).toArray = Array.replicate 24 (Value.int .u8 0) := by kernel_rfl
attribute [local irreducible] fnOf bodyOf
abbrev encB : UInt8 → Value := fun (b : UInt8) => Value.int .u8 (b.toNat : Int)
theorem fu_slice {c nd : Nat} (h : nd ≤ 24) (w : World) : (Instr.sliceAt 152 (.pointer (some ⟨c, 0, none⟩)) none (some (.int .i64 (nd : Int))) none).run Tryd.prog w = .ok (.slice (some ⟨c, 0, none⟩) nd 24) w := by
  rw [run_sliceAt_array_h (t := 152) (a := ⟨c, 0, none⟩) (w := w) fu_under .i64 (nd : Int) (by omega) (by rw [fu_len]; omega), fu_elem]
  simp [Tryd.sizeOf5, slicedAt, fu_len, Addr.add_lit]
theorem put_heap (w : World) (c n : Nat) (d : Array UInt8) (k : Nat) (h : k ≠ c) : ((putRow encB w c 0 d).drewN n).heap[k]? = w.heap[k]? := by
  show (putRow encB w c 0 d).heap[k]? = _
  unfold putRow mapBlock
  simp only [Array.getElem?_modify]
  rw [if_neg (fun e => h e.symm)]
def fuintC : Ctr := { args := [.int .u64, .int .i64], res := [.str], pre := some (fun (x : Int × Int) => x.2 = 10), fn := fun (x : Int × Int) => natT x.1.toNat }
theorem fuint_ok : CtrOK Tryd.prog 140 fuintC :=
  ctr_of_to (C := mkC tys fuG []) tysOK (by kernel_rfl) (by kernel_rfl) (by kernel_rfl) (fun x => by rw [fu_n]; show 2 ≤ 32; omega) fun R0 b (x : Int × Int) a0 hbk hw hp h0 hsz0 hd0 => by
    obtain ⟨n, base⟩ := x
    have hb : base = 10 := hp _ rfl
    subst hb
    have hn : IntKind.u64.has n := hw.1
    rw [has_u64] at hn
    obtain ⟨u, rfl⟩ := Int.eq_ofNat_of_zero_le hn.1
    have hu : u < 18446744073709551616 := by omega
    show LTo Tryd.prog b _ (finQ (mkC tys fuG []) (fnOf Tryd.prog 140) [.str] R0 (natT u)) a0 R0.w0
    rw [fu_n] at hsz0
    rw [fu_all]
    have k0 := Kd.start (W := fun _ => none) (n := 32) (sl := []) h0 hsz0 hd0 (fun _ h => by cases h)
    show LTo Tryd.prog b ([fuB 0, fuB 1] ++ [fuB 2, fuB 3, fuB 4, fuB 5]) _ a0 R0.w0
    refine k0.piece (C := mkC tys [] []) tysOK ctrs_nil mixed (fn := fnOf Tryd.prog 140) (res := [.str]) (ts := fuT1) (bs := []) (G := fun x => x = (none, some (((u : Int), true, ()), ()))) (by kernel_rfl) (by kernel_rfl) ?_ ?_ ?_ ?_
    · show (pieceT (mkC tys [] []) (fnOf Tryd.prog 140) [.str] fuT1 [] [fuB 0, fuB 1] { tmps := number 0 (resL [.int .u64, .int .i64] ((u : Int), (10 : Int))), boxes := [] }).holds _
      rw [congrFun fu0_tree ((u : Int), (10 : Int))]; rfl
    · intro y s' a' w' hy; cases hy
    · intro x a1 w1 hx k1
      simp only [Prod.mk.injEq, Option.some.injEq, true_and] at hx
      subst hx
      refine LTo.cons ?_
      rw [fu_2]
      refine CodeTo.cond (t := true) (k1.old.bool rfl) ?_
      rw [if_pos rfl]
      have k2 := k1.restr (L := { prom := [], keep := fuT0.map (·.1), boxes := [], sum := fun _ => .stuck }) (s' := mkS fuT0 [] (((u : Int), ()), ())) (by kernel_rfl)
      refine CodeTo.seqs ?_
      rw [fu_in]
      show LTo Tryd.prog b ([fuI 0, fuI 1] ++ [fuI 2, fuI 3, fuI 4, fuI 5, fuI 6]) _ a1 w1
      refine k2.piece (C := mkC tys fuG []) tysOK fuG_ok mixed (fn := fnOf Tryd.prog 140) (res := [.str]) (ts := fuT0) (bs := []) (G := fun x => x = (some (natT u), none) ∨ x = (none, some (((u : Int), ()), ())) ∧ 100 ≤ u) (by kernel_rfl) (by kernel_rfl) ?_ ?_ ?_ ?_
      · rw [congrFun fu2_tree (((u : Int), ()), ())]
        simp only [Tree.holds]
        have e : ∀ h : u < 100, IntKind.wrap IntKind.i64 (u : Int) = u := fun h => i64_id (by omega) (by omega)
        refine ⟨fun h => ?_, fun h => .inr ⟨trivial, ?_⟩⟩
        · have h' : (u : Int) < 100 := of_decide_eq_true h
          rw [e (by omega)]
          exact ⟨⟨by omega, by omega⟩, .inl rfl⟩
        · have h' : ¬ (u : Int) < 100 := of_decide_eq_false h
          omega
      · intro y s' a' w' hy j1 j2 j3
        rcases hy with hy | ⟨hy, _⟩
        · simp only [Prod.mk.injEq, Option.some.injEq, and_true] at hy
          rw [hy] at j3
          exact ⟨.inr rfl, j2, s', j1, j3⟩
        · cases hy
      · intro x a2 w2 hx k3
        rcases hx with hx | ⟨hx, hu100⟩
        · cases hx
        simp only [Prod.mk.injEq, Option.some.injEq, true_and] at hx
        subst hx
        have hnd := nd_small (u := u) (by omega) hu
        refine LTo.cons ?_
        rw [fu_i2]
        refine CodeTo.region ?_
        rw [show List.range (rOps (fuI 2)).size = [0] by kernel_rfl]
        refine RegTo.value (o := rOp (fuI 2) 0) (v := .pointer (some ⟨w2.heap.size, 0, none⟩)) (w' := w2.alloc (.cells (Array.replicate 24 (Value.int .u8 0)) 152)) (by kernel_rfl) (by kernel_rfl) ?_ ?_
        · have := alloc_run (P := Tryd.prog) (τ := tys) tysOK fu_arr w2
          rw [fu_zero] at this
          unfold execOp
          rw [show (rOp (fuI 2) 0).op = .alloc 152 by kernel_rfl]
          simp [this]
        rw [show (rOp (fuI 2) 0).dst = some 5 by kernel_rfl]
        have hnew := heap_alloc_new w2 (.cells (Array.replicate 24 (Value.int .u8 0)) 152)
        have k4 := (k3.world (K' := fun k => k = w2.heap.size) (W' := fun _ => some (.cells (Array.replicate 24 (Value.int .u8 0)) 152 (0, 0))) (w' := w2.alloc (.cells (Array.replicate 24 (Value.int .u8 0)) 152)) (fun k hk => .inr (by omega)) (fun k hk => by rw [hk]; exact (Array.getElem?_eq_some_iff.1 hnew).1) (fun k hk => by rw [hk]; exact hnew) rfl rfl rfl (by simp) (fun k hk _ => (Grows.alloc w2 _).block k hk)).keep (k := 5) (v := .pointer (some ⟨w2.heap.size, 0, none⟩)) rfl (by omega) (by simp)
        generalize a2.put (some 5) (.pointer (some ⟨w2.heap.size, 0, none⟩)) = a3 at k4 ⊢
        generalize w2.alloc (.cells (Array.replicate 24 (Value.int .u8 0)) 152) = w3 at k4 ⊢
        generalize w2.heap.size = c at k4
        refine RegTo.nil ?_
        show LTo Tryd.prog b ([fuI 3] ++ [fuI 4, fuI 5, fuI 6]) _ a3 w3
        refine k4.piece (C := mkC tys fuG []) tysOK fuG_ok mixed (fn := fnOf Tryd.prog 140) (res := [.str]) (ts := fuT6) (bs := []) (G := fun x => x = (none, some (((u : Int), (Lib.nDigits u : Int), ()), ()))) (by kernel_rfl) (by kernel_rfl) ?_ ?_ ?_ ?_
        · rw [congrFun fu5_tree (((u : Int), ()), ())]
          exact ⟨(by omega : (1 : Int) ≤ u), rfl⟩
        · intro y s' a' w' hy; cases hy
        · intro x a4 w4 hx k5
          simp only [Prod.mk.injEq, Option.some.injEq, true_and] at hx
          subst hx
          refine LTo.cons ?_
          rw [fu_i4]
          refine CodeTo.region ?_
          rw [show List.range (rOps (fuI 4)).size = [0, 1, 2, 3] by kernel_rfl]
          show RegTo Tryd.prog b _ ([0] ++ [1, 2, 3]) _ _ _
          refine k5.opsL (C := mkC tys [] []) tysOK ctrs_nil (ts := fuT18) (bs := []) (G := fun x => x = some (((u : Int), (Lib.nDigits u : Int), (Lib.nDigits u : Int), ()), ())) [0] (by kernel_rfl) (by kernel_rfl) ?_ ?_ (fun h => by cases h)
          · show (opsT (mkC tys [] []) fuT18 [] [rOp (fuI 4) 0] (mkS fuT6 [] (((u : Int), (Lib.nDigits u : Int), ()), ()))).holds _
            rw [congrFun fu6_tree _]; rfl
          · intro x a5 w5 hx k6
            simp only [Option.some.injEq] at hx
            subst hx
            have h5 : a5.eval (.tmp 5) = .pointer (some ⟨c, 0, none⟩) := k6.slots (5, .pointer (some ⟨c, 0, none⟩)) (by simp)
            have h18 : a5.eval (.tmp 18) = .int .i64 (Lib.nDigits u) := known_i64 k6.old rfl
            refine RegTo.value (o := rOp (fuI 4) 1) (v := .slice (some ⟨c, 0, none⟩) (Lib.nDigits u) 24) (w' := w5) (by kernel_rfl) (by kernel_rfl) ?_ ?_
            · unfold execOp
              rw [show (rOp (fuI 4) 1).op = .slice 152 (.tmp 5) none (some (.tmp 18)) none by kernel_rfl]
              simp [h5, h18, fu_slice (by omega : Lib.nDigits u ≤ 24) w5]
            rw [show (rOp (fuI 4) 1).dst = some 19 by kernel_rfl]
            have k7 := k6.keep (k := 19) (v := .slice (some ⟨c, 0, none⟩) (Lib.nDigits u) 24) rfl (by omega) (by simp)
            generalize a5.put (some 19) (.slice (some ⟨c, 0, none⟩) (Lib.nDigits u) 24) = a6 at k7 ⊢
            show RegTo Tryd.prog b _ ([2] ++ [3]) _ _ _
            refine k7.opsL (C := mkC tys [] []) tysOK ctrs_nil (ts := fuT20) (bs := []) (G := fun x => x = some (((Lib.nDigits u : Int), (u : Int), ()), ())) [2] (by kernel_rfl) (by kernel_rfl) ?_ ?_ (fun h => by cases h)
            · show (opsT (mkC tys [] []) fuT20 [] [rOp (fuI 4) 2] (mkS fuT18 [] (((u : Int), (Lib.nDigits u : Int), (Lib.nDigits u : Int), ()), ()))).holds _
              rw [congrFun fu7_tree _]; rfl
            · intro x a7 w7 hx k8
              simp only [Option.some.injEq] at hx
              subst hx
              have h19 : a7.eval (.tmp 19) = .slice (some ⟨c, 0, none⟩) (Lib.nDigits u) 24 := k8.slots (19, .slice (some ⟨c, 0, none⟩) (Lib.nDigits u) 24) (by simp)
              have h20 : a7.eval (.tmp 20) = .int .u64 (u : Int) := known_u64 k8.old rfl
              have hc7 := k8.heap (k := c) rfl
              have hH : Holds encB w7 c 0 (Array.replicate (Lib.nDigits u) (0 : UInt8)) := fun j hj => by
                have hj' : j < Lib.nDigits u := by simpa using hj
                refine ⟨?_, by simp [World.frozen?, hc7]⟩
                rw [getElem!_pos _ j hj]
                simp [World.cell?, hc7, Array.getElem?_replicate, show j < 24 by omega]
              have hcall := Tryd.internal_strconv_formatBase10 c 0 24 u (Array.replicate (Lib.nDigits u) 0) w7 hH (by rw [Array.size_replicate]; exact Lib.lt_pow_nDigits u) hu (by rw [Array.size_replicate]; omega)
              rw [Array.size_replicate] at hcall
              refine k8.call (o := rOp (fuI 4) 3) (x := .func 161) (ar := #[.tmp 19, .tmp 20]) (ts := #[111, 44]) (f := 161) (caps := #[]) (args := #[.slice (some ⟨c, 0, none⟩) (Lib.nDigits u) 24, .int .u64 u]) (by kernel_rfl) (by kernel_rfl) (by kernel_rfl) rfl (by simp [h19, h20]) fb_fn fb_body fb_name hcall ?_
              rintro e w8 ⟨rfl, k, v', dk, rfl, hF⟩
              refine ⟨_, fun k => k = c, fun i => ((putRow encB w7 c 0 dk).drewN k).heap[i]?, rfl, fun i hi => .inl hi, fun i hi => ?_, fun _ _ => rfl, rfl, rfl, rfl, ?_, fun i hi hne => put_heap w7 c k dk i hne, fun k9 => ?_⟩
              · rw [hi]
                show c < ((putRow encB w7 c 0 dk).drewN k).heap.size
                have := (Array.getElem?_eq_some_iff.1 hc7).1
                simpa using this
              · simp
              have hcv : ∀ j (hj : j < (natT u).length), ((putRow encB w7 c 0 dk).drewN k).cell? ⟨c, 0 + j, none⟩ = some (.int .u8 ((natT u)[j].toNat : Int)) := by
                rw [← natT_dec hu]
                intro j hj
                rw [Lib.row_is_numeral hF j hj, World.cell?_drewN]
                exact cell?_putRow encB _ c 0 _ dk hH (by rw [hF.size, Array.size_replicate]) j (by rw [hF.size]; rw [Lib.decDigits_length] at hj; exact hj)
              generalize (putRow encB w7 c 0 dk).drewN k = w8 at k9 hcv ⊢
              rw [show (rOp (fuI 4) 3).dst = some 21 by kernel_rfl]
              have k10 := (k9.keep (k := 21) (v := .tuple #[]) rfl (by omega) (by simp)).less (sl' := [(5, .pointer (some ⟨c, 0, none⟩))]) (fun p hp => by simp at hp ⊢; simp [hp])
              generalize a7.put (some 21) (.tuple #[]) = a8 at k10 ⊢
              refine RegTo.nil ?_
              refine LTo.cons ?_
              rw [fu_i5]
              refine CodeTo.region ?_
              rw [show List.range (rOps (fuI 5)).size = [0, 1, 2, 3] by kernel_rfl]
              show RegTo Tryd.prog b _ ([0] ++ [1, 2, 3]) _ _ _
              refine k10.opsL (C := mkC tys [] []) tysOK ctrs_nil (ts := fuT22) (bs := []) (G := fun x => x = some (((Lib.nDigits u : Int), ()), ())) [0] (by kernel_rfl) (by kernel_rfl) ?_ ?_ (fun h => by cases h)
              · show (opsT (mkC tys [] []) fuT22 [] [rOp (fuI 5) 0] (mkS fuT20 [] (((Lib.nDigits u : Int), (u : Int), ()), ()))).holds _
                rw [congrFun fu8_tree _]; rfl
              · intro x a9 w9 hx k11
                simp only [Option.some.injEq] at hx
                subst hx
                have h5' : a9.eval (.tmp 5) = .pointer (some ⟨c, 0, none⟩) := k11.slots (5, .pointer (some ⟨c, 0, none⟩)) (by simp)
                have h22 : a9.eval (.tmp 22) = .int .i64 (Lib.nDigits u) := known_i64 k11.old rfl
                refine RegTo.value (o := rOp (fuI 5) 1) (v := .slice (some ⟨c, 0, none⟩) (Lib.nDigits u) 24) (w' := w9) (by kernel_rfl) (by kernel_rfl) ?_ ?_
                · unfold execOp
                  rw [show (rOp (fuI 5) 1).op = .slice 152 (.tmp 5) none (some (.tmp 22)) none by kernel_rfl]
                  simp [h5', h22, fu_slice (by omega : Lib.nDigits u ≤ 24) w9]
                rw [show (rOp (fuI 5) 1).dst = some 23 by kernel_rfl]
                have k12 := k11.keep (k := 23) (v := .slice (some ⟨c, 0, none⟩) (Lib.nDigits u) 24) rfl (by omega) (by simp)
                generalize a9.put (some 23) (.slice (some ⟨c, 0, none⟩) (Lib.nDigits u) 24) = a10 at k12 ⊢
                have h23 : a10.eval (.tmp 23) = .slice (some ⟨c, 0, none⟩) (Lib.nDigits u) 24 := k12.slots (23, .slice (some ⟨c, 0, none⟩) (Lib.nDigits u) 24) (by simp)
                have hle : Lib.nDigits u = (natT u).length := by rw [← natT_dec hu, Lib.decDigits_length]
                refine RegTo.value (o := rOp (fuI 5) 2) (v := .string ⟨⟨natT u⟩⟩) (w' := w9) (by kernel_rfl) (by kernel_rfl) ?_ ?_
                · have := run_convert_bytes_back (P := Tryd.prog) w9 111 9 5 ⟨c, 0, none⟩ 24 (natT u) Tryd.underlying111 Tryd.underlying5 Tryd.underlying9 (fun j hj => by
                    rw [Lib.add_plain, cell_of_heap (k11.heap (k := c) rfl)]
                    exact hcv j hj)
                  rw [← hle] at this
                  unfold execOp
                  rw [show (rOp (fuI 5) 2).op = .convert 111 9 (.tmp 23) by kernel_rfl]
                  simp [h23, this]
                rw [show (rOp (fuI 5) 2).dst = some 24 by kernel_rfl]
                have hmax : (natT u).length ≤ maxStr := by have := natT_len u; unfold maxStr; omega
                have k13 := ((k12.known (k := 24) (v := .string ⟨⟨natT u⟩⟩) (av := .val .str (natT u)) (fun M => ⟨_, ⟨rfl, hmax⟩, rfl⟩) (by omega) (by simp)).less (sl' := []) (fun p hp => by cases hp)).restr (L := { prom := [], keep := [24], boxes := [], sum := fun _ => .stuck }) (s' := mkS [(24, .val .str)] [] ((natT u, ()), ())) (by kernel_rfl)
                generalize a10.put (some 24) (.string ⟨⟨natT u⟩⟩) = a11 at k13 ⊢
                show RegTo Tryd.prog b _ ([3] ++ []) _ _ _
                refine k13.opsL (C := mkC tys [] []) tysOK ctrs_nil (ts := [(4, .val .str)]) (bs := []) (G := fun x => x = some ((natT u, ()), ())) [3] (by kernel_rfl) (by kernel_rfl) ?_ ?_ (fun h => by cases h)
                · show (opsT (mkC tys [] []) [(4, .val .str)] [] [rOp (fuI 5) 3] (mkS [(24, .val .str)] [] ((natT u, ()), ()))).holds _
                  rw [congrFun fu9_tree _]; rfl
                · intro x a12 w12 hx k14
                  simp only [Option.some.injEq] at hx
                  subst hx
                  refine RegTo.nil ?_
                  refine LTo.cons ?_
                  rw [fu_i6]
                  refine then_id (CodeTo.of_wp (wp_ret ?_))
                  refine ⟨.inr rfl, k14.defers, _, k14.old, ?_⟩
                  have : evRes (mkC tys fuG []) (fnOf Tryd.prog 140) [.str] (.normal, mkS [(4, .val .str)] [] ((natT u, ()), ())) = .leaf (natT u) := by kernel_rfl
                  rw [this]
                  rfl
        · intro h; cases h
      · rintro (h | ⟨h, _⟩) <;> cases h
    · intro h; cases h
def sfuintG : List (Nat × Ctr) := [(140, fuintC)]
theorem sfuintG_ok : CtrsOK Tryd.prog (fun f => lk f sfuintG) := (ctrs_cons fuint_ok ctrs_nil)
def sfuintC : Ctr := { args := [.int .u64, .int .i64], res := [.str], pre := some (fun (x : Int × Int) => x.2 = 10), fn := fun (x : Int × Int) => natT x.1.toNat }
theorem sfuint_tree : (fun x : Int × Int => evFn (mkC tys sfuintG []) (fnOf Tryd.prog 103) (resL sfuintC.args x) sfuintC.res) =
  (fun x => Tree.need (x.2 = (10 : Int)) (Tree.leaf (natT (Int.toNat x.1)))) := by kernel_rfl
theorem sfuint_ok : CtrOK Tryd.prog 103 sfuintC :=
  fun_ok (G := sfuintG) (Λ := []) tysOK sfuintG_ok mixed (by kernel_rfl) (by kernel_rfl) (by kernel_rfl) (by kernel_rfl) lp_nil fun (x : Int × Int) hw hp => by
    rw [congrFun sfuint_tree x]
    have h : x.2 = 10 := hp _ rfl
    exact ⟨h, rfl⟩
end Go.Ev.D
/- The functions of 'tree' keep their contracts. -/
set_option linter.unusedVariables false
set_option linter.unusedSimpArgs false
namespace Go.Ev.D
open Go.Proofs
def tfarC : Ctr := { args := [], res := [gEnt], pre := none, fn := fun (x : Unit) => farE }
def tfarG : List (Nat × Ctr) := []
theorem tfar_tree : (fun x : Unit => evFn (mkC tys tfarG []) (fnOf Tryd.prog 98) (resL tfarC.args x) tfarC.res) =
  (fun x => Tree.leaf ((4294967295 : Int), (-1 : Int))) := by kernel_rfl
theorem tfar_ok : CtrOK Tryd.prog 98 tfarC :=
  fun_ok (G := tfarG) (Λ := []) tysOK ctrs_nil mixed (by kernel_rfl) (by kernel_rfl) (by kernel_rfl) (by kernel_rfl) lp_nil fun (x : Unit) hw _ => by
    rw [congrFun tfar_tree x]
    exact holds_val (d := tfarC.fn x) (by kernel_rfl) (by simp [Tree.safe])
def tnewG : List (Nat × Ctr) := [(98, tfarC), (72, rightC)]
theorem tnewG_ok : CtrsOK Tryd.prog (fun f => lk f tnewG) := ctrs_cons tfar_ok (ctrs_cons right_ok ctrs_nil)
def rtnewG : List (Nat × Ctr) := [(99, rrightC)]
theorem rtnewG_ok : CtrsOK Tryd.prog (fun f => lk f rtnewG) := ctrs_cons rright_ok ctrs_nil
def tnewD : LoopD where
  prom := []
  ts := [(3, .ptr 3 gTree), (5, .val (.int .i64))]
  bs := [(3, .var gTree)]
  pre := fun (x : (Int × Unit) × (List DEnt × Unit)) => 0 ≤ x.1.1 ∧ x.1.1 ≤ 16 ∧ x.2.1.length = 16 ∧ ∀ j : Nat, (j : Int) < x.1.1 → entAt x.2.1 j = farE
  out := fun (x : (Int × Unit) × (List DEnt × Unit)) => .leaf (.exit 0, ((16, ()), (farT, ())))
theorem tnew_round : (fun x : (Int × Unit) × (List DEnt × Unit) => roundOf (mkC tys tnewG [(0, tnewD.spec)]) tnewD (loopB 0 (bodyOf (fnOf Tryd.prog 28))) x) =
  (fun x =>
    Tree.br (decide (x.1.1 < (16 : Int)))
      (Tree.need ((0 : Int) ≤ x.1.1 ∧ x.1.1 < (16 : Int))
        (Tree.leaf (Ex.normal, some ((IntKind.wrap IntKind.i64 (x.1.1 + (1 : Int)), ()), List.set x.2.1 (Int.toNat x.1.1) ((4294967295 : Int), (-1 : Int)), ()))))
      (Tree.leaf (Ex.exit (0 : Nat), some ((x.1.1, ()), x.2.1, ())))) := by kernel_rfl
theorem tnew_loop : LoopOK (mkC tys tnewG [(0, tnewD.spec)]) tnewD.spec (loopB 0 (bodyOf (fnOf Tryd.prog 28))) :=
  loopD_ok1 (fun _ => rfl) (fun x => congrFun tnew_round x) (fun (x : (Int × Unit) × (List DEnt × Unit)) => (16 - x.1.1).toNat) fun (x : (Int × Unit) × (List DEnt × Unit)) hp => by
    obtain ⟨⟨i, ⟨⟩⟩, t, ⟨⟩⟩ := x
    obtain ⟨h1, h2, h3, h4⟩ := hp
    simp only at h1 h2 h3 h4
    simp only [Tree.holds]
    refine ⟨fun h => ?_, fun h => ?_⟩
    · have h' : i < 16 := by simpa using h
      have e : IntKind.i64.wrap (i + 1) = i + 1 := i64_id (by omega) (by omega)
      refine ⟨⟨h1, h'⟩, _, rfl, ⟨?_, ?_, ?_, ?_⟩, ?_, rfl⟩
      · show 0 ≤ IntKind.i64.wrap (i + 1); omega
      · show IntKind.i64.wrap (i + 1) ≤ 16; omega
      · show (t.set i.toNat _).length = 16
        rw [List.length_set, h3]
      · intro j hj
        have hj' : (j : Int) < IntKind.i64.wrap (i + 1) := hj
        rw [e] at hj'
        show entAt (t.set i.toNat farE) j = farE
        rw [ent_set (by omega)]
        by_cases hij : i.toNat = j
        · rw [if_pos hij]
        · rw [if_neg hij]; exact h4 j (by omega)
      · show (16 - IntKind.i64.wrap (i + 1)).toNat < (16 - i).toNat; omega
    · have h' : ¬ i < 16 := by simpa using h
      have hi : i = 16 := by omega
      subst hi
      refine ⟨_, rfl, ?_⟩
      have : t = farT := ent_ext h3 (by simp [farT]) fun j hj => by rw [ent_far hj]; exact h4 j (by omega)
      rw [this]
      rfl
theorem rtnew_round : (fun x : (Int × Unit) × (List DEnt × Unit) => roundOf (mkC tys rtnewG [(0, tnewD.spec)]) tnewD (loopB 0 (bodyOf (fnOf Tryd.prog 29))) x) =
  (fun x =>
    Tree.br (decide (x.1.1 < (16 : Int)))
      (Tree.need ((0 : Int) ≤ x.1.1 ∧ x.1.1 < (16 : Int))
        (Tree.leaf (Ex.normal, some ((IntKind.wrap IntKind.i64 (x.1.1 + (1 : Int)), ()), List.set x.2.1 (Int.toNat x.1.1) ((4294967295 : Int), (-1 : Int)), ()))))
      (Tree.leaf (Ex.exit (0 : Nat), some ((x.1.1, ()), x.2.1, ())))) := by kernel_rfl
theorem rtnew_loop : LoopOK (mkC tys rtnewG [(0, tnewD.spec)]) tnewD.spec (loopB 0 (bodyOf (fnOf Tryd.prog 29))) :=
  loopD_ok1 (fun _ => rfl) (fun x => congrFun rtnew_round x) (fun (x : (Int × Unit) × (List DEnt × Unit)) => (16 - x.1.1).toNat) fun (x : (Int × Unit) × (List DEnt × Unit)) hp => by
    obtain ⟨⟨i, ⟨⟩⟩, t, ⟨⟩⟩ := x
    obtain ⟨h1, h2, h3, h4⟩ := hp
    simp only at h1 h2 h3 h4
    simp only [Tree.holds]
    refine ⟨fun h => ?_, fun h => ?_⟩
    · have h' : i < 16 := by simpa using h
      have e : IntKind.i64.wrap (i + 1) = i + 1 := i64_id (by omega) (by omega)
      refine ⟨⟨h1, h'⟩, _, rfl, ⟨?_, ?_, ?_, ?_⟩, ?_, rfl⟩
      · show 0 ≤ IntKind.i64.wrap (i + 1); omega
      · show IntKind.i64.wrap (i + 1) ≤ 16; omega
      · show (t.set i.toNat _).length = 16
        rw [List.length_set, h3]
      · intro j hj
        have hj' : (j : Int) < IntKind.i64.wrap (i + 1) := hj
        rw [e] at hj'
        show entAt (t.set i.toNat farE) j = farE
        rw [ent_set (by omega)]
        by_cases hij : i.toNat = j
        · rw [if_pos hij]
        · rw [if_neg hij]; exact h4 j (by omega)
      · show (16 - IntKind.i64.wrap (i + 1)).toNat < (16 - i).toNat; omega
    · have h' : ¬ i < 16 := by simpa using h
      have hi : i = 16 := by omega
      subst hi
      refine ⟨_, rfl, ?_⟩
      have : t = farT := ent_ext h3 (by simp [farT]) fun j hj => by rw [ent_far hj]; exact h4 j (by omega)
      rw [this]
      rfl
def tnewC : Ctr := { args := [.int .i64], res := [gTree], pre := none, fn := fun (x : Int) => newT x }
theorem tnew_tree : (fun x : Int => evFn (mkC tys tnewG [(0, tnewD.spec)]) (fnOf Tryd.prog 28) (resL tnewC.args x) tnewC.res) =
  (fun x =>
    Tree.need
      ((0 : Int) ≤ (0 : Int) ∧
        (0 : Int) ≤ (16 : Int) ∧
          (16 : Nat) = (16 : Nat) ∧ ∀ (j : Nat), (↑j : Int) < (0 : Int) → List.getD (List.replicate (16 : Nat) ((0 : Int), (0 : Int))) j ((0 : Int), (0 : Int)) = ((4294967295 : Int), (-1 : Int)))
      (Tree.need (rightF x = true → (0 : Int) ≤ x ∧ x < (16 : Int))
        (Tree.leaf (bif rightF x then List.set farT (Int.toNat x) ((0 : Int), (List.getD farT (Int.toNat x) ((0 : Int), (0 : Int))).2) else farT)))) := by kernel_rfl
theorem tnew_ok : CtrOK Tryd.prog 28 tnewC :=
  fun_ok (G := tnewG) (Λ := [(0, tnewD.spec)]) tysOK tnewG_ok mixed (by kernel_rfl) (by kernel_rfl) (by kernel_rfl) (by kernel_rfl) (lp_cons tnew_loop lp_nil) fun (x : Int) hw _ => by
    rw [congrFun tnew_tree x]
    simp only [Tree.holds]
    exact ⟨⟨by omega, by omega, trivial, fun j hj => by omega⟩, fun h => rightF_iff.1 h, rfl⟩
theorem rtnew_tree : (fun x : Int => evFn (mkC tys rtnewG [(0, tnewD.spec)]) (fnOf Tryd.prog 29) (resL tnewC.args x) tnewC.res) =
  (fun x =>
    Tree.need
      ((0 : Int) ≤ (0 : Int) ∧
        (0 : Int) ≤ (16 : Int) ∧
          (16 : Nat) = (16 : Nat) ∧ ∀ (j : Nat), (↑j : Int) < (0 : Int) → List.getD (List.replicate (16 : Nat) ((0 : Int), (0 : Int))) j ((0 : Int), (0 : Int)) = ((4294967295 : Int), (-1 : Int)))
      (Tree.need (rightF x = true → (0 : Int) ≤ x ∧ x < (16 : Int))
        (Tree.leaf (bif rightF x then List.set farT (Int.toNat x) ((0 : Int), (List.getD farT (Int.toNat x) ((0 : Int), (0 : Int))).2) else farT)))) := by kernel_rfl
theorem rtnew_ok : CtrOK Tryd.prog 29 tnewC :=
  fun_ok (G := rtnewG) (Λ := [(0, tnewD.spec)]) tysOK rtnewG_ok mixed (by kernel_rfl) (by kernel_rfl) (by kernel_rfl) (by kernel_rfl) (lp_cons rtnew_loop lp_nil) fun (x : Int) hw _ => by
    rw [congrFun rtnew_tree x]
    simp only [Tree.holds]
    exact ⟨⟨by omega, by omega, trivial, fun j hj => by omega⟩, fun h => rightF_iff.1 h, rfl⟩
def tgetC : Ctr := { args := [gTree, .int .i64], res := [gEnt], pre := none, fn := fun (x : List DEnt × Int) => getT x.1 x.2 }
def tputC : Ctr := { args := [gTree, .int .i64, gEnt], res := [gTree], pre := none, fn := fun (x : List DEnt × Int × DEnt) => putT x.1 x.2.1 x.2.2 }
theorem tget_tree : (fun x : List DEnt × Int => evFn (mkC tys tnewG []) (fnOf Tryd.prog 30) (resL tgetC.args x) tgetC.res) =
  (fun x => Tree.br (!rightF x.2) (Tree.leaf ((4294967295 : Int), (-1 : Int))) (Tree.need ((0 : Int) ≤ x.2 ∧ x.2 < (16 : Int)) (Tree.leaf (List.getD x.1 (Int.toNat x.2) ((0 : Int), (0 : Int)))))) := by kernel_rfl
theorem tget_ok : CtrOK Tryd.prog 30 tgetC :=
  fun_ok (G := tnewG) (Λ := []) tysOK tnewG_ok mixed (by kernel_rfl) (by kernel_rfl) (by kernel_rfl) (by kernel_rfl) lp_nil fun (x : List DEnt × Int) hw _ => by
    rw [congrFun tget_tree x]
    have e : tgetC.fn x = getT x.1 x.2 := rfl
    rw [e]
    simp only [Tree.holds, getT]
    refine ⟨fun h => by rw [h]; rfl, fun h => ⟨rightF_iff.1 (by simpa using h), by rw [h]; rfl⟩⟩
theorem tput_tree : (fun x : List DEnt × Int × DEnt => evFn (mkC tys tnewG []) (fnOf Tryd.prog 32) (resL tputC.args x) tputC.res) =
  (fun x => Tree.need (rightF x.2.1 = true → (0 : Int) ≤ x.2.1 ∧ x.2.1 < (16 : Int)) (Tree.leaf (bif rightF x.2.1 then List.set x.1 (Int.toNat x.2.1) x.2.2 else x.1))) := by kernel_rfl
theorem tput_ok : CtrOK Tryd.prog 32 tputC :=
  fun_ok (G := tnewG) (Λ := []) tysOK tnewG_ok mixed (by kernel_rfl) (by kernel_rfl) (by kernel_rfl) (by kernel_rfl) lp_nil fun (x : List DEnt × Int × DEnt) hw _ => by
    rw [congrFun tput_tree x]
    simp only [Tree.holds]
    exact ⟨fun h => rightF_iff.1 h, rfl⟩
theorem rtget_tree : (fun x : List DEnt × Int => evFn (mkC tys rtnewG []) (fnOf Tryd.prog 31) (resL tgetC.args x) tgetC.res) =
  (fun x => Tree.br (!rightF x.2) (Tree.leaf ((4294967295 : Int), (-1 : Int))) (Tree.need ((0 : Int) ≤ x.2 ∧ x.2 < (16 : Int)) (Tree.leaf (List.getD x.1 (Int.toNat x.2) ((0 : Int), (0 : Int)))))) := by kernel_rfl
theorem rtget_ok : CtrOK Tryd.prog 31 tgetC :=
  fun_ok (G := rtnewG) (Λ := []) tysOK rtnewG_ok mixed (by kernel_rfl) (by kernel_rfl) (by kernel_rfl) (by kernel_rfl) lp_nil fun (x : List DEnt × Int) hw _ => by
    rw [congrFun rtget_tree x]
    have e : tgetC.fn x = getT x.1 x.2 := rfl
    rw [e]
    simp only [Tree.holds, getT]
    refine ⟨fun h => by rw [h]; rfl, fun h => ⟨rightF_iff.1 (by simpa using h), by rw [h]; rfl⟩⟩
theorem rtput_tree : (fun x : List DEnt × Int × DEnt => evFn (mkC tys rtnewG []) (fnOf Tryd.prog 33) (resL tputC.args x) tputC.res) =
  (fun x => Tree.need (rightF x.2.1 = true → (0 : Int) ≤ x.2.1 ∧ x.2.1 < (16 : Int)) (Tree.leaf (bif rightF x.2.1 then List.set x.1 (Int.toNat x.2.1) x.2.2 else x.1))) := by kernel_rfl
theorem rtput_ok : CtrOK Tryd.prog 33 tputC :=
  fun_ok (G := rtnewG) (Λ := []) tysOK rtnewG_ok mixed (by kernel_rfl) (by kernel_rfl) (by kernel_rfl) (by kernel_rfl) lp_nil fun (x : List DEnt × Int × DEnt) hw _ => by
    rw [congrFun rtput_tree x]
    simp only [Tree.holds]
    exact ⟨fun h => rightF_iff.1 h, rfl⟩
def trootC : Ctr := { args := [gTree], res := [.int .i64], pre := none, fn := fun (x : List DEnt) => rootT x }
def trootD : LoopD where
  prom := []
  ts := [(2, .val (.int .i64)), (3, .val (.int .i64)), (6, .val gTree), (7, .val (.int .i64))]
  bs := []
  pre := fun (x : (Int × Int × List DEnt × Int × Unit) × Unit) => 0 ≤ x.1.2.2.2.1 ∧ x.1.2.2.2.1 ≤ 16
  out := fun (x : (Int × Int × List DEnt × Int × Unit) × Unit) => .br (dupB x.1.2.2.1 (16 - x.1.2.2.2.1).toNat x.1.2.1) (.leaf (.ret, ((-1, dupR x.1.2.2.1 (16 - x.1.2.2.2.1).toNat x.1.2.1, x.1.2.2.1, dupI x.1.2.2.1 (16 - x.1.2.2.2.1).toNat x.1.2.1, ()), ())))
    (.leaf (.exit 0, ((x.1.1, lastR x.1.2.2.1 (16 - x.1.2.2.2.1).toNat x.1.2.1, x.1.2.2.1, 16, ()), ())))
theorem troot_round : (fun x : (Int × Int × List DEnt × Int × Unit) × Unit => roundOf (mkC tys [] [(0, trootD.spec)]) trootD (loopB 0 (bodyOf (fnOf Tryd.prog 34))) x) =
  (fun x =>
    Tree.br (decide (x.1.2.2.2.1 < (16 : Int)))
      (Tree.need ((0 : Int) ≤ x.1.2.2.2.1 ∧ x.1.2.2.2.1 < (16 : Int))
        (Tree.br ((List.getD x.1.2.2.1 (Int.toNat x.1.2.2.2.1) ((0 : Int), (0 : Int))).1 != (0 : Int))
          (Tree.leaf (Ex.normal, some ((x.1.1, x.1.2.1, x.1.2.2.1, IntKind.wrap IntKind.i64 (x.1.2.2.2.1 + (1 : Int)), ()), ())))
          (Tree.br (decide (x.1.2.1 ≥ (0 : Int))) (Tree.leaf (Ex.ret, some (((-1 : Int), x.1.2.1, x.1.2.2.1, x.1.2.2.2.1, ()), ())))
            (Tree.leaf (Ex.normal, some ((x.1.1, x.1.2.2.2.1, x.1.2.2.1, IntKind.wrap IntKind.i64 (x.1.2.2.2.1 + (1 : Int)), ()), ()))))))
      (Tree.leaf (Ex.exit (0 : Nat), some ((x.1.1, x.1.2.1, x.1.2.2.1, x.1.2.2.2.1, ()), ())))) := by kernel_rfl
theorem troot_loop : LoopOK (mkC tys [] [(0, trootD.spec)]) trootD.spec (loopB 0 (bodyOf (fnOf Tryd.prog 34))) :=
  loopD_ok (fun x => congrFun troot_round x) (fun (x : (Int × Int × List DEnt × Int × Unit) × Unit) => (16 - x.1.2.2.2.1).toNat) fun (x : (Int × Int × List DEnt × Int × Unit) × Unit) hp => by
    obtain ⟨⟨z, r, t, i, ⟨⟩⟩, ⟨⟩⟩ := x
    obtain ⟨h1, h2⟩ := hp
    simp only at h1 h2
    have hG0 : ∀ G : Ex × ((Int × Int × List DEnt × Int × Unit) × Unit) → Prop, (trootD.out ((z, r, t, i, ()), ())).holds G →
        (dupB t (16 - i).toNat r = true → G (.ret, ((-1, dupR t (16 - i).toNat r, t, dupI t (16 - i).toNat r, ()), ()))) ∧ (dupB t (16 - i).toNat r = false → G (.exit 0, ((z, lastR t (16 - i).toNat r, t, 16, ()), ()))) := fun G hG => hG
    have hout : ∀ (r' i' : Int) (G : Ex × ((Int × Int × List DEnt × Int × Unit) × Unit) → Prop), (dupB t (16 - i').toNat r' = true → G (.ret, ((-1, dupR t (16 - i').toNat r', t, dupI t (16 - i').toNat r', ()), ()))) ∧ (dupB t (16 - i').toNat r' = false → G (.exit 0, ((z, lastR t (16 - i').toNat r', t, 16, ()), ()))) → (trootD.out ((z, r', t, i', ()), ())).holds G := fun r' i' G h => h
    simp only [Tree.holds]
    refine ⟨fun h => ?_, fun h => ?_⟩
    · have h' : i < 16 := by simpa using h
      have e : IntKind.i64.wrap (i + 1) = i + 1 := i64_id (by omega) (by omega)
      obtain ⟨s1, s2⟩ := step_i h1 h'
      have hn : ((i.toNat : Nat) : Int) = i := by omega
      rw [s1] at hG0
      simp only [dupB, dupR, dupI, lastR, s2, hn] at hG0
      have hce : t.getD i.toNat ((0 : Int), (0 : Int)) = entAt t i.toNat := rfl
      rw [hce]
      generalize entAt t i.toNat = c at hG0 ⊢
      have hpre : 0 ≤ IntKind.i64.wrap (i + 1) ∧ IntKind.i64.wrap (i + 1) ≤ 16 := by omega
      have hmu : (16 - IntKind.i64.wrap (i + 1)).toNat < (16 - i).toNat := by omega
      refine ⟨⟨h1, h'⟩, fun hc => ⟨_, rfl, hpre, hmu, fun G hG => ?_⟩, fun hc => ⟨fun hr => ⟨_, rfl, fun G hG => ?_⟩, fun hr => ⟨_, rfl, hpre, hmu, fun G hG => ?_⟩⟩⟩
      · have := hG0 G hG
        rw [hc] at this
        refine hout _ _ G ?_
        rw [e]
        exact this
      · have := hG0 G hG
        rw [hc, hr] at this
        exact this.1 rfl
      · have := hG0 G hG
        rw [hc, hr] at this
        refine hout _ _ G ?_
        rw [e]
        exact this
    · have h' : ¬ i < 16 := by simpa using h
      have hi : i = 16 := by omega
      subst hi
      exact ⟨_, rfl, fun G hG => (hG0 G hG).2 rfl⟩
theorem troot_tree : (fun x : List DEnt => evFn (mkC tys [] [(0, trootD.spec)]) (fnOf Tryd.prog 34) (resL trootC.args x) trootC.res) =
  (fun x =>
    Tree.need ((0 : Int) ≤ (0 : Int) ∧ (0 : Int) ≤ (16 : Int))
      (Tree.br (dupB x (Int.toNat ((16 : Int) - (0 : Int))) (-1 : Int)) (Tree.leaf (-1 : den (GTy.int IntKind.i64))) (Tree.leaf (lastR x (Int.toNat ((16 : Int) - (0 : Int))) (-1 : Int))))) := by kernel_rfl
theorem troot_ok : CtrOK Tryd.prog 34 trootC :=
  fun_ok (G := []) (Λ := [(0, trootD.spec)]) tysOK ctrs_nil mixed (by kernel_rfl) (by kernel_rfl) (by kernel_rfl) (by kernel_rfl) (lp_cons troot_loop lp_nil) fun (x : List DEnt) hw _ => by
    rw [congrFun troot_tree x]
    have e : trootC.fn x = rootT x := rfl
    rw [e]
    simp only [Tree.holds]
    exact ⟨⟨by omega, by omega⟩, fun h => (root_t h).symm, fun h => (root_f h).symm⟩
theorem rtroot_round : (fun x : (Int × Int × List DEnt × Int × Unit) × Unit => roundOf (mkC tys [] [(0, trootD.spec)]) trootD (loopB 0 (bodyOf (fnOf Tryd.prog 35))) x) =
  (fun x =>
    Tree.br (decide (x.1.2.2.2.1 < (16 : Int)))
      (Tree.need ((0 : Int) ≤ x.1.2.2.2.1 ∧ x.1.2.2.2.1 < (16 : Int))
        (Tree.br ((List.getD x.1.2.2.1 (Int.toNat x.1.2.2.2.1) ((0 : Int), (0 : Int))).1 == (0 : Int))
          (Tree.br (decide (x.1.2.1 ≥ (0 : Int))) (Tree.leaf (Ex.ret, some (((-1 : Int), x.1.2.1, x.1.2.2.1, x.1.2.2.2.1, ()), ())))
            (Tree.leaf (Ex.normal, some ((x.1.1, x.1.2.2.2.1, x.1.2.2.1, IntKind.wrap IntKind.i64 (x.1.2.2.2.1 + (1 : Int)), ()), ()))))
          (Tree.leaf (Ex.normal, some ((x.1.1, x.1.2.1, x.1.2.2.1, IntKind.wrap IntKind.i64 (x.1.2.2.2.1 + (1 : Int)), ()), ())))))
      (Tree.leaf (Ex.exit (0 : Nat), some ((x.1.1, x.1.2.1, x.1.2.2.1, x.1.2.2.2.1, ()), ())))) := by kernel_rfl
theorem rtroot_loop : LoopOK (mkC tys [] [(0, trootD.spec)]) trootD.spec (loopB 0 (bodyOf (fnOf Tryd.prog 35))) :=
  loopD_ok (fun x => congrFun rtroot_round x) (fun (x : (Int × Int × List DEnt × Int × Unit) × Unit) => (16 - x.1.2.2.2.1).toNat) fun (x : (Int × Int × List DEnt × Int × Unit) × Unit) hp => by
    obtain ⟨⟨z, r, t, i, ⟨⟩⟩, ⟨⟩⟩ := x
    obtain ⟨h1, h2⟩ := hp
    simp only at h1 h2
    have hG0 : ∀ G : Ex × ((Int × Int × List DEnt × Int × Unit) × Unit) → Prop, (trootD.out ((z, r, t, i, ()), ())).holds G →
        (dupB t (16 - i).toNat r = true → G (.ret, ((-1, dupR t (16 - i).toNat r, t, dupI t (16 - i).toNat r, ()), ()))) ∧ (dupB t (16 - i).toNat r = false → G (.exit 0, ((z, lastR t (16 - i).toNat r, t, 16, ()), ()))) := fun G hG => hG
    have hout : ∀ (r' i' : Int) (G : Ex × ((Int × Int × List DEnt × Int × Unit) × Unit) → Prop), (dupB t (16 - i').toNat r' = true → G (.ret, ((-1, dupR t (16 - i').toNat r', t, dupI t (16 - i').toNat r', ()), ()))) ∧ (dupB t (16 - i').toNat r' = false → G (.exit 0, ((z, lastR t (16 - i').toNat r', t, 16, ()), ()))) → (trootD.out ((z, r', t, i', ()), ())).holds G := fun r' i' G h => h
    simp only [Tree.holds]
    refine ⟨fun h => ?_, fun h => ?_⟩
    · have h' : i < 16 := by simpa using h
      have e : IntKind.i64.wrap (i + 1) = i + 1 := i64_id (by omega) (by omega)
      obtain ⟨s1, s2⟩ := step_i h1 h'
      have hn : ((i.toNat : Nat) : Int) = i := by omega
      rw [s1] at hG0
      simp only [dupB, dupR, dupI, lastR, s2, hn] at hG0
      have hce : t.getD i.toNat ((0 : Int), (0 : Int)) = entAt t i.toNat := rfl
      rw [hce]
      generalize entAt t i.toNat = c at hG0 ⊢
      have hpre : 0 ≤ IntKind.i64.wrap (i + 1) ∧ IntKind.i64.wrap (i + 1) ≤ 16 := by omega
      have hmu : (16 - IntKind.i64.wrap (i + 1)).toNat < (16 - i).toNat := by omega
      refine ⟨⟨h1, h'⟩, fun hc => ⟨fun hr => ⟨_, rfl, fun G hG => ?_⟩, fun hr => ⟨_, rfl, hpre, hmu, fun G hG => ?_⟩⟩, fun hc => ⟨_, rfl, hpre, hmu, fun G hG => ?_⟩⟩
      · have hc' : (c.1 != (0 : Int)) = false := by simp [bne, hc]
        have := hG0 G hG
        rw [hc', hr] at this
        exact this.1 rfl
      · have hc' : (c.1 != (0 : Int)) = false := by simp [bne, hc]
        have := hG0 G hG
        rw [hc', hr] at this
        refine hout _ _ G ?_
        rw [e]
        exact this
      · have hc' : (c.1 != (0 : Int)) = true := by simp [bne, hc]
        have := hG0 G hG
        rw [hc'] at this
        refine hout _ _ G ?_
        rw [e]
        exact this
    · have h' : ¬ i < 16 := by simpa using h
      have hi : i = 16 := by omega
      subst hi
      exact ⟨_, rfl, fun G hG => (hG0 G hG).2 rfl⟩
theorem rtroot_tree : (fun x : List DEnt => evFn (mkC tys [] [(0, trootD.spec)]) (fnOf Tryd.prog 35) (resL trootC.args x) trootC.res) =
  (fun x =>
    Tree.need ((0 : Int) ≤ (0 : Int) ∧ (0 : Int) ≤ (16 : Int))
      (Tree.br (dupB x (Int.toNat ((16 : Int) - (0 : Int))) (-1 : Int)) (Tree.leaf (-1 : den (GTy.int IntKind.i64))) (Tree.leaf (lastR x (Int.toNat ((16 : Int) - (0 : Int))) (-1 : Int))))) := by kernel_rfl
theorem rtroot_ok : CtrOK Tryd.prog 35 trootC :=
  fun_ok (G := []) (Λ := [(0, trootD.spec)]) tysOK ctrs_nil mixed (by kernel_rfl) (by kernel_rfl) (by kernel_rfl) (by kernel_rfl) (lp_cons rtroot_loop lp_nil) fun (x : List DEnt) hw _ => by
    rw [congrFun rtroot_tree x]
    have e : trootC.fn x = rootT x := rfl
    rw [e]
    simp only [Tree.holds]
    exact ⟨⟨by omega, by omega⟩, fun h => (root_t h).symm, fun h => (root_f h).symm⟩
def treachC : Ctr := { args := [gTree], res := [.int .i64], pre := none, fn := fun (x : List DEnt) => reachT x }
def treachD : LoopD where
  prom := []
  ts := [(3, .val (.int .i64)), (6, .val gTree), (7, .val (.int .i64))]
  bs := []
  pre := fun (x : (Int × List DEnt × Int × Unit) × Unit) => 0 ≤ x.1.2.2.1 ∧ x.1.2.2.1 ≤ 16
  out := fun (x : (Int × List DEnt × Int × Unit) × Unit) => .leaf (.exit 0, ((reachK x.1.2.1 (16 - x.1.2.2.1).toNat x.1.1, x.1.2.1, 16, ()), ()))
def treachG : List (Nat × Ctr) := [(100, withC)]
theorem treach_round : (fun x : (Int × List DEnt × Int × Unit) × Unit => roundOf (mkC tys treachG [(0, treachD.spec)]) treachD (loopB 0 (bodyOf (fnOf Tryd.prog 36))) x) =
  (fun x =>
    Tree.br (decide (x.1.2.2.1 < (16 : Int)))
      (Tree.need ((0 : Int) ≤ x.1.2.2.1 ∧ x.1.2.2.1 < (16 : Int))
        (Tree.leaf
          (Ex.normal,
            some
              ((bif (List.getD x.1.2.1 (Int.toNat x.1.2.2.1) ((0 : Int), (0 : Int))).1 != (4294967295 : Int) then withF x.1.1 x.1.2.2.1 else x.1.1, x.1.2.1,
                  IntKind.wrap IntKind.i64 (x.1.2.2.1 + (1 : Int)), ()),
                ()))))
      (Tree.leaf (Ex.exit (0 : Nat), some ((x.1.1, x.1.2.1, x.1.2.2.1, ()), ())))) := by kernel_rfl
theorem treach_loop : LoopOK (mkC tys treachG [(0, treachD.spec)]) treachD.spec (loopB 0 (bodyOf (fnOf Tryd.prog 36))) :=
  loopD_ok1 (fun _ => rfl) (fun x => congrFun treach_round x) (fun (x : (Int × List DEnt × Int × Unit) × Unit) => (16 - x.1.2.2.1).toNat) fun (x : (Int × List DEnt × Int × Unit) × Unit) hp => by
    obtain ⟨⟨s, t, i, ⟨⟩⟩, ⟨⟩⟩ := x
    obtain ⟨h1, h2⟩ := hp
    simp only at h1 h2
    simp only [Tree.holds]
    refine ⟨fun h => ?_, fun h => ?_⟩
    · have h' : i < 16 := by simpa using h
      have e : IntKind.i64.wrap (i + 1) = i + 1 := i64_id (by omega) (by omega)
      obtain ⟨s1, s2⟩ := step_i h1 h'
      have hn : ((i.toNat : Nat) : Int) = i := by omega
      have key : ∀ s', s' = (bif (entAt t i.toNat).1 != (4294967295 : Int) then withF s i else s) → (0 ≤ IntKind.i64.wrap (i + 1) ∧ IntKind.i64.wrap (i + 1) ≤ 16) ∧ (16 - IntKind.i64.wrap (i + 1)).toNat < (16 - i).toNat ∧ (Ex.exit 0, ((reachK t (16 - IntKind.i64.wrap (i + 1)).toNat s', t, (16 : Int), ()), ())) = (Ex.exit 0, ((reachK t (16 - i).toNat s, t, (16 : Int), ()), ())) := by
        rintro s' rfl
        rw [e]
        refine ⟨by omega, by omega, ?_⟩
        rw [s1]
        simp only [reachK, s2, hn]
      first
        | exact ⟨⟨h1, h'⟩, _, rfl, key _ rfl⟩
        | exact ⟨⟨h1, h'⟩, ⟨h1, h'⟩, _, rfl, key _ rfl⟩
    · have h' : ¬ i < 16 := by simpa using h
      have hi : i = 16 := by omega
      subst hi
      exact ⟨_, rfl, rfl⟩
theorem treach_tree : (fun x : List DEnt => evFn (mkC tys treachG [(0, treachD.spec)]) (fnOf Tryd.prog 36) (resL treachC.args x) treachC.res) =
  (fun x => Tree.need ((0 : Int) ≤ (0 : Int) ∧ (0 : Int) ≤ (16 : Int)) (Tree.leaf (reachK x (Int.toNat ((16 : Int) - (0 : Int))) (0 : Int)))) := by kernel_rfl
theorem treach_ok : CtrOK Tryd.prog 36 treachC :=
  fun_ok (G := treachG) (Λ := [(0, treachD.spec)]) tysOK (ctrs_cons with_ok ctrs_nil) mixed (by kernel_rfl) (by kernel_rfl) (by kernel_rfl) (by kernel_rfl) (lp_cons treach_loop lp_nil) fun (x : List DEnt) hw _ => by
    rw [congrFun treach_tree x]
    simp only [Tree.holds]
    exact ⟨⟨by omega, by omega⟩, rfl⟩
def rtreachG : List (Nat × Ctr) := [(101, rwithC)]
theorem rtreach_round : (fun x : (Int × List DEnt × Int × Unit) × Unit => roundOf (mkC tys rtreachG [(0, treachD.spec)]) treachD (loopB 0 (bodyOf (fnOf Tryd.prog 37))) x) =
  (fun x =>
    Tree.br (decide (x.1.2.2.1 < (16 : Int)))
      (Tree.need ((0 : Int) ≤ x.1.2.2.1 ∧ x.1.2.2.1 < (16 : Int))
        (Tree.leaf
          (Ex.normal,
            some
              ((bif (List.getD x.1.2.1 (Int.toNat x.1.2.2.1) ((0 : Int), (0 : Int))).1 != (4294967295 : Int) then withF x.1.1 x.1.2.2.1 else x.1.1, x.1.2.1,
                  IntKind.wrap IntKind.i64 (x.1.2.2.1 + (1 : Int)), ()),
                ()))))
      (Tree.leaf (Ex.exit (0 : Nat), some ((x.1.1, x.1.2.1, x.1.2.2.1, ()), ())))) := by kernel_rfl
theorem rtreach_loop : LoopOK (mkC tys rtreachG [(0, treachD.spec)]) treachD.spec (loopB 0 (bodyOf (fnOf Tryd.prog 37))) :=
  loopD_ok1 (fun _ => rfl) (fun x => congrFun rtreach_round x) (fun (x : (Int × List DEnt × Int × Unit) × Unit) => (16 - x.1.2.2.1).toNat) fun (x : (Int × List DEnt × Int × Unit) × Unit) hp => by
    obtain ⟨⟨s, t, i, ⟨⟩⟩, ⟨⟩⟩ := x
    obtain ⟨h1, h2⟩ := hp
    simp only at h1 h2
    simp only [Tree.holds]
    refine ⟨fun h => ?_, fun h => ?_⟩
    · have h' : i < 16 := by simpa using h
      have e : IntKind.i64.wrap (i + 1) = i + 1 := i64_id (by omega) (by omega)
      obtain ⟨s1, s2⟩ := step_i h1 h'
      have hn : ((i.toNat : Nat) : Int) = i := by omega
      have key : ∀ s', s' = (bif (entAt t i.toNat).1 != (4294967295 : Int) then withF s i else s) → (0 ≤ IntKind.i64.wrap (i + 1) ∧ IntKind.i64.wrap (i + 1) ≤ 16) ∧ (16 - IntKind.i64.wrap (i + 1)).toNat < (16 - i).toNat ∧ (Ex.exit 0, ((reachK t (16 - IntKind.i64.wrap (i + 1)).toNat s', t, (16 : Int), ()), ())) = (Ex.exit 0, ((reachK t (16 - i).toNat s, t, (16 : Int), ()), ())) := by
        rintro s' rfl
        rw [e]
        refine ⟨by omega, by omega, ?_⟩
        rw [s1]
        simp only [reachK, s2, hn]
      first
        | exact ⟨⟨h1, h'⟩, _, rfl, key _ rfl⟩
        | exact ⟨⟨h1, h'⟩, ⟨h1, h'⟩, _, rfl, key _ rfl⟩
    · have h' : ¬ i < 16 := by simpa using h
      have hi : i = 16 := by omega
      subst hi
      exact ⟨_, rfl, rfl⟩
theorem rtreach_tree : (fun x : List DEnt => evFn (mkC tys rtreachG [(0, treachD.spec)]) (fnOf Tryd.prog 37) (resL treachC.args x) treachC.res) =
  (fun x => Tree.need ((0 : Int) ≤ (0 : Int) ∧ (0 : Int) ≤ (16 : Int)) (Tree.leaf (reachK x (Int.toNat ((16 : Int) - (0 : Int))) (0 : Int)))) := by kernel_rfl
theorem rtreach_ok : CtrOK Tryd.prog 37 treachC :=
  fun_ok (G := rtreachG) (Λ := [(0, treachD.spec)]) tysOK (ctrs_cons rwith_ok ctrs_nil) mixed (by kernel_rfl) (by kernel_rfl) (by kernel_rfl) (by kernel_rfl) (lp_cons rtreach_loop lp_nil) fun (x : List DEnt) hw _ => by
    rw [congrFun rtreach_tree x]
    simp only [Tree.holds]
    exact ⟨⟨by omega, by omega⟩, rfl⟩
end Go.Ev.D
/- Trees told. -/
set_option linter.unusedVariables false
set_option linter.unusedSimpArgs false
namespace Go.Ev.D
open Go.Proofs
def udigC (k : Nat) : Ctr := { args := [.int .u32], res := [.str], pre := some (fun (x : Int) => x < 10 ^ k), fn := fun (x : Int) => natT x.toNat }
theorem udig_tree : (fun x : Nat × Int => evFn (mkC tys [(107, udigC x.1)] []) (fnOf Tryd.prog 107) (resL [.int .u32] x.2) [.str]) =
  (fun x =>
    Tree.br (decide (x.2 < (10 : Int))) (Tree.leaf (bytesToStr [IntKind.wrap IntKind.u8 (IntKind.wrap IntKind.u32 ((48 : Int) + x.2))]))
      (Tree.need (IntKind.wrap IntKind.u32 (Int.tdiv x.2 (10 : Int)) < (10 : Int) ^ x.1)
        (Tree.need
          (List.length (natT (Int.toNat (IntKind.wrap IntKind.u32 (Int.tdiv x.2 (10 : Int))))) +
              List.length (bytesToStr [IntKind.wrap IntKind.u8 (IntKind.wrap IntKind.u32 ((48 : Int) + Int.tmod x.2 (10 : Int)))]) ≤
            (4611686018427387904 : Nat))
          (Tree.leaf (natT (Int.toNat (IntKind.wrap IntKind.u32 (Int.tdiv x.2 (10 : Int)))) ++ bytesToStr [IntKind.wrap IntKind.u8 (IntKind.wrap IntKind.u32 ((48 : Int) + Int.tmod x.2 (10 : Int)))]))))) := by kernel_rfl
theorem udig0_tree : (fun x : Int => evFn (mkC tys [] []) (fnOf Tryd.prog 107) (resL [.int .u32] x) [.str]) =
  (fun x => Tree.br (decide (x < (10 : Int))) (Tree.leaf (bytesToStr [IntKind.wrap IntKind.u8 (IntKind.wrap IntKind.u32 ((48 : Int) + x))])) Tree.stuck) := by kernel_rfl
theorem udig_ok : ∀ k, CtrOK Tryd.prog 107 (udigC k)
  | 0 => fun_ok (G := []) (Λ := []) tysOK ctrs_nil mixed (by kernel_rfl) (by kernel_rfl) (by kernel_rfl) (by kernel_rfl) lp_nil fun (x : Int) hw hp => by
    have h : x < 10 ^ 0 := hp _ rfl
    have hx : IntKind.u32.has x := hw
    rw [has_u32] at hx
    show (evFn (mkC tys [] []) (fnOf Tryd.prog 107) (resL [.int .u32] x) [.str]).holds (fun y => y = natT x.toNat)
    rw [congrFun udig0_tree x]
    simp only [Tree.holds]
    refine ⟨fun h2 => udig_one hx.1 (of_decide_eq_true h2), fun h2 => ?_⟩
    have h2' : ¬ x < 10 := of_decide_eq_false h2
    omega
  | k + 1 => fun_ok (G := [(107, udigC k)]) (Λ := []) tysOK (ctrs_cons (udig_ok k) ctrs_nil) mixed (by kernel_rfl) (by kernel_rfl) (by kernel_rfl) (by kernel_rfl) lp_nil fun (x : Int) hw hp => by
    have h : x < 10 ^ (k + 1) := hp _ rfl
    have hx : IntKind.u32.has x := hw
    rw [has_u32] at hx
    show (evFn (mkC tys [(107, udigC (k, x).1)] []) (fnOf Tryd.prog 107) (resL [.int .u32] (k, x).2) [.str]).holds (fun y => y = natT x.toNat)
    rw [congrFun udig_tree (k, x)]
    simp only [Tree.holds]
    refine ⟨fun h2 => udig_one hx.1 (of_decide_eq_true h2), fun h2 => ?_⟩
    have h2' : ¬ x < 10 := of_decide_eq_false h2
    refine ⟨?_, ?_, udig_more h2' hx.2⟩
    · rw [Int.tdiv_eq_ediv_of_nonneg (by omega), show IntKind.wrap IntKind.u32 (x / 10) = x / 10 from u32_id (by omega) (by omega)]
      rw [Int.pow_succ] at h
      omega
    · have := digN_len 20 (IntKind.wrap IntKind.u32 (Int.tdiv x (10 : Int))).toNat
      unfold natT
      simp [bytesToStr]
      omega
def ttextD : LoopD where
  prom := []
  ts := [(1, .ptr 1 gTree), (3, .val .str), (12, .val (.sl (.int .i64))), (13, .val (.int .i64)), (14, .val (.int .i64))]
  bs := [(1, .var gTree)]
  pre := fun (x : (List UInt8 × List Int × Int × Int × Unit) × (List DEnt × Unit)) => 0 ≤ x.1.2.2.2.1 ∧ x.1.2.2.2.1 ≤ x.1.2.2.1 ∧ x.1.2.2.1 = x.1.2.1.length ∧ x.1.2.2.1 ≤ 16 ∧ (x.1.1.length : Int) ≤ 60 * x.1.2.2.2.1 ∧ (∀ j ∈ x.1.2.1, 0 ≤ j ∧ j < 16) ∧ tOK x.2.1
  out := fun (x : (List UInt8 × List Int × Int × Int × Unit) × (List DEnt × Unit)) => .leaf (.exit 0, ((x.1.1 ++ entsB x.2.1 (x.1.2.1.drop x.1.2.2.2.1.toNat), x.1.2.1, x.1.2.2.1, x.1.2.2.1, ()), (x.2.1, ())))
def ttextG : List (Nat × Ctr) := [(28, tnewC), (36, treachC), (102, listC), (103, sfuintC), (100, withC), (104, ntextC)]
theorem ttextG_ok : CtrsOK Tryd.prog (fun f => lk f ttextG) := (ctrs_cons tnew_ok (ctrs_cons treach_ok (ctrs_cons list_ok (ctrs_cons sfuint_ok (ctrs_cons with_ok (ctrs_cons ntext_ok ctrs_nil))))))
theorem ttext_round : (fun x : (List UInt8 × List Int × Int × Int × Unit) × (List DEnt × Unit) => roundOf (mkC tys ttextG [(0, ttextD.spec)]) ttextD (loopB 0 (bodyOf (fnOf Tryd.prog 38))) x) =
  (fun x =>
    Tree.br (decide (x.1.2.2.2.1 < x.1.2.2.1))
      (Tree.need ((0 : Int) ≤ x.1.2.2.2.1 ∧ x.1.2.2.2.1 < (↑(List.length x.1.2.1) : Int))
        (Tree.need ((0 : Int) ≤ List.getD x.1.2.1 (Int.toNat x.1.2.2.2.1) (0 : Int) ∧ List.getD x.1.2.1 (Int.toNat x.1.2.2.2.1) (0 : Int) < (16 : Int))
          (Tree.need ((10 : Int) = (10 : Int))
            (Tree.need
              (List.length (textN (withF (0 : Int) (List.getD x.1.2.1 (Int.toNat x.1.2.2.2.1) (0 : Int)))) +
                  List.length (natT (Int.toNat (IntKind.wrap IntKind.u64 (List.getD x.2.1 (Int.toNat (List.getD x.1.2.1 (Int.toNat x.1.2.2.2.1) (0 : Int))) ((0 : Int), (0 : Int))).1))) ≤
                (4611686018427387904 : Nat))
              (Tree.need ((0 : Int) ≤ List.getD x.1.2.1 (Int.toNat x.1.2.2.2.1) (0 : Int) ∧ List.getD x.1.2.1 (Int.toNat x.1.2.2.2.1) (0 : Int) < (16 : Int))
                (Tree.need
                  (List.length
                        (textN (withF (0 : Int) (List.getD x.1.2.1 (Int.toNat x.1.2.2.2.1) (0 : Int))) ++
                          natT (Int.toNat (IntKind.wrap IntKind.u64 (List.getD x.2.1 (Int.toNat (List.getD x.1.2.1 (Int.toNat x.1.2.2.2.1) (0 : Int))) ((0 : Int), (0 : Int))).1))) +
                      List.length (textN (withF (0 : Int) (List.getD x.2.1 (Int.toNat (List.getD x.1.2.1 (Int.toNat x.1.2.2.2.1) (0 : Int))) ((0 : Int), (0 : Int))).2)) ≤
                    (4611686018427387904 : Nat))
                  (Tree.need
                    (List.length
                          (textN (withF (0 : Int) (List.getD x.1.2.1 (Int.toNat x.1.2.2.2.1) (0 : Int))) ++
                              natT (Int.toNat (IntKind.wrap IntKind.u64 (List.getD x.2.1 (Int.toNat (List.getD x.1.2.1 (Int.toNat x.1.2.2.2.1) (0 : Int))) ((0 : Int), (0 : Int))).1)) ++
                            textN (withF (0 : Int) (List.getD x.2.1 (Int.toNat (List.getD x.1.2.1 (Int.toNat x.1.2.2.2.1) (0 : Int))) ((0 : Int), (0 : Int))).2)) +
                        (1 : Nat) ≤
                      (4611686018427387904 : Nat))
                    (Tree.need
                      (List.length x.1.1 +
                          List.length
                            (textN (withF (0 : Int) (List.getD x.1.2.1 (Int.toNat x.1.2.2.2.1) (0 : Int))) ++
                                  natT (Int.toNat (IntKind.wrap IntKind.u64 (List.getD x.2.1 (Int.toNat (List.getD x.1.2.1 (Int.toNat x.1.2.2.2.1) (0 : Int))) ((0 : Int), (0 : Int))).1)) ++
                                textN (withF (0 : Int) (List.getD x.2.1 (Int.toNat (List.getD x.1.2.1 (Int.toNat x.1.2.2.2.1) (0 : Int))) ((0 : Int), (0 : Int))).2) ++
                              [(32 : UInt8)]) ≤
                        (4611686018427387904 : Nat))
                      (Tree.leaf
                        (Ex.normal,
                          some
                            ((x.1.1 ++
                                  (textN (withF (0 : Int) (List.getD x.1.2.1 (Int.toNat x.1.2.2.2.1) (0 : Int))) ++
                                        natT (Int.toNat (IntKind.wrap IntKind.u64 (List.getD x.2.1 (Int.toNat (List.getD x.1.2.1 (Int.toNat x.1.2.2.2.1) (0 : Int))) ((0 : Int), (0 : Int))).1)) ++
                                      textN (withF (0 : Int) (List.getD x.2.1 (Int.toNat (List.getD x.1.2.1 (Int.toNat x.1.2.2.2.1) (0 : Int))) ((0 : Int), (0 : Int))).2) ++
                                    [(32 : UInt8)]),
                                x.1.2.1, x.1.2.2.1, IntKind.wrap IntKind.i64 (x.1.2.2.2.1 + (1 : Int)), ()),
                              x.2.1, ())))))))))))
      (Tree.leaf (Ex.exit (0 : Nat), some ((x.1.1, x.1.2.1, x.1.2.2.1, x.1.2.2.2.1, ()), x.2.1, ())))) := by kernel_rfl
theorem ttext_loop : LoopOK (mkC tys ttextG [(0, ttextD.spec)]) ttextD.spec (loopB 0 (bodyOf (fnOf Tryd.prog 38))) :=
  loopD_ok1 (fun _ => rfl) (fun x => congrFun ttext_round x) (fun (x : (List UInt8 × List Int × Int × Int × Unit) × (List DEnt × Unit)) => (x.1.2.2.1 - x.1.2.2.2.1).toNat) fun (x : (List UInt8 × List Int × Int × Int × Unit) × (List DEnt × Unit)) hp => by
    obtain ⟨⟨o, l, n, i, ⟨⟩⟩, t, ⟨⟩⟩ := x
    obtain ⟨h1, h2, h3, h4, h5, h6, h7⟩ := hp
    simp only at h1 h2 h3 h4 h5 h6 h7
    simp only [Tree.holds]
    refine ⟨fun h => ?_, fun h => ?_⟩
    · have h' : i < n := by simpa using h
      have e : IntKind.i64.wrap (i + 1) = i + 1 := i64_id (by omega) (by omega)
      have hm := h6 _ (getD_mem (l := l) h1 (by omega))
      have hd := drop_int (l := l) h1 (by omega)
      generalize l.getD i.toNat 0 = v at hm hd ⊢
      have hr := h7 v.toNat
      have hel := entB_len t v
      have hce : t.getD v.toNat ((0 : Int), (0 : Int)) = entAt t v.toNat := rfl
      rw [hce]
      unfold entB at hel
      have hk : ∀ o2, o2 = o ++ entB t v → (0 ≤ IntKind.i64.wrap (i + 1) ∧ IntKind.i64.wrap (i + 1) ≤ n ∧ n = l.length ∧ n ≤ 16 ∧ (o2.length : Int) ≤ 60 * IntKind.i64.wrap (i + 1) ∧ (∀ j ∈ l, 0 ≤ j ∧ j < 16) ∧ tOK t) ∧ (n - IntKind.i64.wrap (i + 1)).toNat < (n - i).toNat ∧
          (Ex.exit 0, ((o2 ++ entsB t (l.drop (IntKind.i64.wrap (i + 1)).toNat), l, n, n, ()), (t, ()))) = (Ex.exit 0, ((o ++ entsB t (l.drop i.toNat), l, n, n, ()), (t, ()))) := by
        rintro o2 rfl
        have := entB_len t v
        rw [e, hd, ents_cons]
        refine ⟨⟨by omega, by omega, h3, h4, ?_, h6, h7⟩, by omega, ?_⟩
        · rw [List.length_append]; omega
        · rw [List.append_assoc]
      unfold entB at hk
      try rw [u64_id hr.1 (by omega)]
      generalize entAt t v.toNat = c at hr hel hk ⊢
      generalize textN (withF 0 v) = a1 at hel hk ⊢
      generalize natT c.1.toNat = a2 at hel hk ⊢
      generalize textN (withF 0 c.2) = a3 at hel hk ⊢
      simp only [List.length_append, List.length_cons, List.length_nil] at hel
      refine ⟨⟨h1, by omega⟩, hm, trivial, ?_, hm, ?_, ?_, ?_, _, rfl, hk _ rfl⟩
      all_goals first | omega | (simp only [List.length_append, List.length_cons, List.length_nil]; omega)
    · have h' : ¬ i < n := by simpa using h
      have hi : i = n := by omega
      subst hi
      refine ⟨_, rfl, ?_⟩
      show (Ex.exit 0, ((o ++ entsB t (l.drop i.toNat), l, i, i, ()), (t, ()))) = _
      rw [List.drop_eq_nil_of_le (by omega), show entsB t [] = [] from rfl, List.append_nil]
      rfl
def ttextC : Ctr := { args := [gTree], res := [.str], pre := none, fn := fun (x : List DEnt) => treeB x }
theorem ttext_tree : (fun x : List DEnt => evFn (mkC tys ttextG [(0, ttextD.spec)]) (fnOf Tryd.prog 38) (resL ttextC.args x) ttextC.res) =
  (fun x =>
    Tree.br (geq (GTy.arr (16 : Nat) (GTy.prod (GTy.int IntKind.u32) (GTy.int IntKind.i64))) x (newT (-1 : Int))) (Tree.leaf [])
      (Tree.need
        ((0 : Int) ≤ (0 : Int) ∧
          (0 : Int) ≤ (↑(List.length (elemsF (reachT x) (16 : Nat))) : Int) ∧
            (↑(List.length (elemsF (reachT x) (16 : Nat))) : Int) = (↑(List.length (elemsF (reachT x) (16 : Nat))) : Int) ∧
              (↑(List.length (elemsF (reachT x) (16 : Nat))) : Int) ≤ (16 : Int) ∧
                (↑(0 : Nat) : Int) ≤ (60 : Int) * (0 : Int) ∧ (∀ (j : Int), j ∈ elemsF (reachT x) (16 : Nat) → (0 : Int) ≤ j ∧ j < (16 : Int)) ∧ tOK x)
        (Tree.leaf ([] ++ entsB x (List.drop (Int.toNat (0 : Int)) (elemsF (reachT x) (16 : Nat))))))) := by kernel_rfl
theorem ttext_ok : CtrOK Tryd.prog 38 ttextC :=
  fun_ok (G := ttextG) (Λ := [(0, ttextD.spec)]) tysOK ttextG_ok mixed (by kernel_rfl) (by kernel_rfl) (by kernel_rfl) (by kernel_rfl) (lp_cons ttext_loop lp_nil) fun (x : List DEnt) hw _ => by
    rw [congrFun ttext_tree x]
    have hl := elems_len (reachT x) 16
    have e : ttextC.fn x = treeB x := rfl
    rw [e]
    simp only [Tree.holds]
    refine ⟨fun h => ?_, fun h => ⟨⟨by omega, by omega, trivial, by omega, by simp, fun j hj => ⟨(elem_in (Nat.le_refl 16) hj).1, (elem_in (Nat.le_refl 16) hj).2.1⟩, tOK_wt hw⟩, rfl⟩⟩
    rw [new_none] at h
    have h2 : x = farT := geq_eq gTree x farT rfl hw wt_farT h
    rw [h2, tree_none]
def rttextD : LoopD where
  prom := []
  ts := [(1, .ptr 1 gTree), (3, .val .str), (8, .val (.sl (.int .i64))), (9, .val (.int .i64)), (10, .val (.int .i64))]
  bs := [(1, .var gTree)]
  pre := fun (x : (List UInt8 × List Int × Int × Int × Unit) × (List DEnt × Unit)) => 0 ≤ x.1.2.2.2.1 ∧ x.1.2.2.2.1 ≤ x.1.2.2.1 ∧ x.1.2.2.1 = x.1.2.1.length ∧ x.1.2.2.1 ≤ 16 ∧ (x.1.1.length : Int) ≤ 60 * x.1.2.2.2.1 ∧ (∀ j ∈ x.1.2.1, 0 ≤ j ∧ j < 16) ∧ tOK x.2.1
  out := fun (x : (List UInt8 × List Int × Int × Int × Unit) × (List DEnt × Unit)) => .leaf (.exit 0, ((x.1.1 ++ entsB x.2.1 (x.1.2.1.drop x.1.2.2.2.1.toNat), x.1.2.1, x.1.2.2.1, x.1.2.2.1, ()), (x.2.1, ())))
def rttextG : List (Nat × Ctr) := [(37, treachC), (105, rlistC), (101, rwithC), (106, rtextC), (107, udigC 10)]
theorem rttext_round : (fun x : (List UInt8 × List Int × Int × Int × Unit) × (List DEnt × Unit) => roundOf (mkC tys rttextG [(0, rttextD.spec)]) rttextD (loopB 0 (bodyOf (fnOf Tryd.prog 39))) x) =
  (fun x =>
    Tree.br (decide (x.1.2.2.2.1 < x.1.2.2.1))
      (Tree.need ((0 : Int) ≤ x.1.2.2.2.1 ∧ x.1.2.2.2.1 < (↑(List.length x.1.2.1) : Int))
        (Tree.need ((0 : Int) ≤ List.getD x.1.2.1 (Int.toNat x.1.2.2.2.1) (0 : Int) ∧ List.getD x.1.2.1 (Int.toNat x.1.2.2.2.1) (0 : Int) < (16 : Int))
          (Tree.need ((List.getD x.2.1 (Int.toNat (List.getD x.1.2.1 (Int.toNat x.1.2.2.2.1) (0 : Int))) ((0 : Int), (0 : Int))).1 < (10000000000 : Int))
            (Tree.need
              (List.length (textN (withF (0 : Int) (List.getD x.1.2.1 (Int.toNat x.1.2.2.2.1) (0 : Int)))) +
                  List.length (natT (Int.toNat (List.getD x.2.1 (Int.toNat (List.getD x.1.2.1 (Int.toNat x.1.2.2.2.1) (0 : Int))) ((0 : Int), (0 : Int))).1)) ≤
                (4611686018427387904 : Nat))
              (Tree.need ((0 : Int) ≤ List.getD x.1.2.1 (Int.toNat x.1.2.2.2.1) (0 : Int) ∧ List.getD x.1.2.1 (Int.toNat x.1.2.2.2.1) (0 : Int) < (16 : Int))
                (Tree.need
                  (List.length
                        (textN (withF (0 : Int) (List.getD x.1.2.1 (Int.toNat x.1.2.2.2.1) (0 : Int))) ++
                          natT (Int.toNat (List.getD x.2.1 (Int.toNat (List.getD x.1.2.1 (Int.toNat x.1.2.2.2.1) (0 : Int))) ((0 : Int), (0 : Int))).1)) +
                      List.length (textN (withF (0 : Int) (List.getD x.2.1 (Int.toNat (List.getD x.1.2.1 (Int.toNat x.1.2.2.2.1) (0 : Int))) ((0 : Int), (0 : Int))).2)) ≤
                    (4611686018427387904 : Nat))
                  (Tree.need
                    (List.length
                          (textN (withF (0 : Int) (List.getD x.1.2.1 (Int.toNat x.1.2.2.2.1) (0 : Int))) ++
                              natT (Int.toNat (List.getD x.2.1 (Int.toNat (List.getD x.1.2.1 (Int.toNat x.1.2.2.2.1) (0 : Int))) ((0 : Int), (0 : Int))).1) ++
                            textN (withF (0 : Int) (List.getD x.2.1 (Int.toNat (List.getD x.1.2.1 (Int.toNat x.1.2.2.2.1) (0 : Int))) ((0 : Int), (0 : Int))).2)) +
                        (1 : Nat) ≤
                      (4611686018427387904 : Nat))
                    (Tree.need
                      (List.length x.1.1 +
                          List.length
                            (textN (withF (0 : Int) (List.getD x.1.2.1 (Int.toNat x.1.2.2.2.1) (0 : Int))) ++
                                  natT (Int.toNat (List.getD x.2.1 (Int.toNat (List.getD x.1.2.1 (Int.toNat x.1.2.2.2.1) (0 : Int))) ((0 : Int), (0 : Int))).1) ++
                                textN (withF (0 : Int) (List.getD x.2.1 (Int.toNat (List.getD x.1.2.1 (Int.toNat x.1.2.2.2.1) (0 : Int))) ((0 : Int), (0 : Int))).2) ++
                              [(32 : UInt8)]) ≤
                        (4611686018427387904 : Nat))
                      (Tree.leaf
                        (Ex.normal,
                          some
                            ((x.1.1 ++
                                  (textN (withF (0 : Int) (List.getD x.1.2.1 (Int.toNat x.1.2.2.2.1) (0 : Int))) ++
                                        natT (Int.toNat (List.getD x.2.1 (Int.toNat (List.getD x.1.2.1 (Int.toNat x.1.2.2.2.1) (0 : Int))) ((0 : Int), (0 : Int))).1) ++
                                      textN (withF (0 : Int) (List.getD x.2.1 (Int.toNat (List.getD x.1.2.1 (Int.toNat x.1.2.2.2.1) (0 : Int))) ((0 : Int), (0 : Int))).2) ++
                                    [(32 : UInt8)]),
                                x.1.2.1, x.1.2.2.1, IntKind.wrap IntKind.i64 (x.1.2.2.2.1 + (1 : Int)), ()),
                              x.2.1, ())))))))))))
      (Tree.leaf (Ex.exit (0 : Nat), some ((x.1.1, x.1.2.1, x.1.2.2.1, x.1.2.2.2.1, ()), x.2.1, ())))) := by kernel_rfl
theorem rttext_loop : LoopOK (mkC tys rttextG [(0, rttextD.spec)]) rttextD.spec (loopB 0 (bodyOf (fnOf Tryd.prog 39))) :=
  loopD_ok1 (fun _ => rfl) (fun x => congrFun rttext_round x) (fun (x : (List UInt8 × List Int × Int × Int × Unit) × (List DEnt × Unit)) => (x.1.2.2.1 - x.1.2.2.2.1).toNat) fun (x : (List UInt8 × List Int × Int × Int × Unit) × (List DEnt × Unit)) hp => by
    obtain ⟨⟨o, l, n, i, ⟨⟩⟩, t, ⟨⟩⟩ := x
    obtain ⟨h1, h2, h3, h4, h5, h6, h7⟩ := hp
    simp only at h1 h2 h3 h4 h5 h6 h7
    simp only [Tree.holds]
    refine ⟨fun h => ?_, fun h => ?_⟩
    · have h' : i < n := by simpa using h
      have e : IntKind.i64.wrap (i + 1) = i + 1 := i64_id (by omega) (by omega)
      have hm := h6 _ (getD_mem (l := l) h1 (by omega))
      have hd := drop_int (l := l) h1 (by omega)
      generalize l.getD i.toNat 0 = v at hm hd ⊢
      have hr := h7 v.toNat
      have hel := entB_len t v
      have hce : t.getD v.toNat ((0 : Int), (0 : Int)) = entAt t v.toNat := rfl
      rw [hce]
      unfold entB at hel
      have hk : ∀ o2, o2 = o ++ entB t v → (0 ≤ IntKind.i64.wrap (i + 1) ∧ IntKind.i64.wrap (i + 1) ≤ n ∧ n = l.length ∧ n ≤ 16 ∧ (o2.length : Int) ≤ 60 * IntKind.i64.wrap (i + 1) ∧ (∀ j ∈ l, 0 ≤ j ∧ j < 16) ∧ tOK t) ∧ (n - IntKind.i64.wrap (i + 1)).toNat < (n - i).toNat ∧
          (Ex.exit 0, ((o2 ++ entsB t (l.drop (IntKind.i64.wrap (i + 1)).toNat), l, n, n, ()), (t, ()))) = (Ex.exit 0, ((o ++ entsB t (l.drop i.toNat), l, n, n, ()), (t, ()))) := by
        rintro o2 rfl
        have := entB_len t v
        rw [e, hd, ents_cons]
        refine ⟨⟨by omega, by omega, h3, h4, ?_, h6, h7⟩, by omega, ?_⟩
        · rw [List.length_append]; omega
        · rw [List.append_assoc]
      unfold entB at hk
      try rw [u64_id hr.1 (by omega)]
      generalize entAt t v.toNat = c at hr hel hk ⊢
      generalize textN (withF 0 v) = a1 at hel hk ⊢
      generalize natT c.1.toNat = a2 at hel hk ⊢
      generalize textN (withF 0 c.2) = a3 at hel hk ⊢
      simp only [List.length_append, List.length_cons, List.length_nil] at hel
      refine ⟨⟨h1, by omega⟩, hm, by omega, ?_, hm, ?_, ?_, ?_, _, rfl, hk _ rfl⟩
      all_goals first | omega | (simp only [List.length_append, List.length_cons, List.length_nil]; omega)
    · have h' : ¬ i < n := by simpa using h
      have hi : i = n := by omega
      subst hi
      refine ⟨_, rfl, ?_⟩
      show (Ex.exit 0, ((o ++ entsB t (l.drop i.toNat), l, i, i, ()), (t, ()))) = _
      rw [List.drop_eq_nil_of_le (by omega), show entsB t [] = [] from rfl, List.append_nil]
      rfl
theorem rttext_tree : (fun x : List DEnt => evFn (mkC tys rttextG [(0, rttextD.spec)]) (fnOf Tryd.prog 39) (resL ttextC.args x) ttextC.res) =
  (fun x =>
    Tree.need
      ((0 : Int) ≤ (0 : Int) ∧
        (0 : Int) ≤ (↑(List.length (elemsF (reachT x) (16 : Nat))) : Int) ∧
          (↑(List.length (elemsF (reachT x) (16 : Nat))) : Int) = (↑(List.length (elemsF (reachT x) (16 : Nat))) : Int) ∧
            (↑(List.length (elemsF (reachT x) (16 : Nat))) : Int) ≤ (16 : Int) ∧
              (↑(0 : Nat) : Int) ≤ (60 : Int) * (0 : Int) ∧ (∀ (j : Int), j ∈ elemsF (reachT x) (16 : Nat) → (0 : Int) ≤ j ∧ j < (16 : Int)) ∧ tOK x)
      (Tree.leaf ([] ++ entsB x (List.drop (Int.toNat (0 : Int)) (elemsF (reachT x) (16 : Nat)))))) := by kernel_rfl
theorem rttext_ok : CtrOK Tryd.prog 39 ttextC :=
  fun_ok (G := rttextG) (Λ := [(0, rttextD.spec)]) tysOK (ctrs_cons rtreach_ok (ctrs_cons rlist_ok (ctrs_cons rwith_ok (ctrs_cons rtext_ok (ctrs_cons (udig_ok 10) ctrs_nil))))) mixed (by kernel_rfl) (by kernel_rfl) (by kernel_rfl) (by kernel_rfl) (lp_cons rttext_loop lp_nil) fun (x : List DEnt) hw _ => by
    rw [congrFun rttext_tree x]
    have hl := elems_len (reachT x) 16
    have e : ttextC.fn x = treeB x := rfl
    rw [e]
    simp only [Tree.holds]
    exact ⟨⟨by omega, by omega, trivial, by omega, by simp, fun j hj => ⟨(elem_in (Nat.le_refl 16) hj).1, (elem_in (Nat.le_refl 16) hj).2.1⟩, tOK_wt hw⟩, rfl⟩
end Go.Ev.D
/- strconv.ParseUint at base 10, for 32 bits: laid at this seat by the kit's tools. -/
namespace Go.Proofs
open Go.Shelf
def Tryd.laysPu14_ren : Go.Shelf.Ren := ⟨fun | 14 => 135 | 16 => 153 | 17 => 154 | 19 => 170 | 20 => 171 | 21 => 172 | 22 => 173 | 23 => 174 | 24 => 175 | 25 => 185 | 27 => 96 | 26 => 186 | 28 => 139 | 29 => 158 | 30 => 159 | 31 => 160 | 32 => 161 | 33 => 162 | 35 => 177 | 34 => 176 | 36 => 178 | 37 => 179 | 38 => 143 | 39 => 164 | 40 => 165 | n => n, fun | 9 => 9 | 3 => 3 | 22 => 44 | 24 => 115 | 25 => 135 | 4 => 4 | 34 => 159 | 5 => 5 | 36 => 46 | 37 => 111 | 0 => 0 | 39 => 161 | 21 => 21 | 44 => 173 | 47 => 141 | 50 => 180 | 48 => 178 | 2 => 2 | 52 => 152 | 55 => 154 | 59 => 165 | 60 => 33 | 20 => 20 | 61 => 166 | 65 => 167 | 66 => 168 | 67 => 118 | n => n, fun | 0 => 4 | 1 => 5 | 2 => 0 | 3 => 1 | 4 => 2 | n => n⟩
theorem Tryd.laysPu14 : Go.Proofs.LaysPu.n14 Tryd.prog Tryd.laysPu14_ren := {
  mixed := by kernel_rfl
  f14 := Tryd.func135.trans (congrArg some (by kernel_rfl))
  f16 := Tryd.func153.trans (congrArg some (by kernel_rfl))
  f17 := Tryd.func154.trans (congrArg some (by kernel_rfl))
  f19 := Tryd.func170.trans (congrArg some (by kernel_rfl))
  f20 := Tryd.func171.trans (congrArg some (by kernel_rfl))
  f21 := Tryd.func172.trans (congrArg some (by kernel_rfl))
  f22 := Tryd.func173.trans (congrArg some (by kernel_rfl))
  f23 := Tryd.func174.trans (congrArg some (by kernel_rfl))
  f24 := Tryd.func175.trans (congrArg some (by kernel_rfl))
  f25 := Tryd.func185.trans (congrArg some (by kernel_rfl))
  f26 := Tryd.func186.trans (congrArg some (by kernel_rfl))
  f27 := Tryd.func96.trans (congrArg some (by kernel_rfl))
  f28 := Tryd.func139.trans (congrArg some (by kernel_rfl))
  f29 := Tryd.func158.trans (congrArg some (by kernel_rfl))
  f30 := Tryd.func159.trans (congrArg some (by kernel_rfl))
  f31 := Tryd.func160.trans (congrArg some (by kernel_rfl))
  f32 := Tryd.func161.trans (congrArg some (by kernel_rfl))
  f33 := Tryd.func162.trans (congrArg some (by kernel_rfl))
  f34 := Tryd.func176.trans (congrArg some (by kernel_rfl))
  f35 := Tryd.func177.trans (congrArg some (by kernel_rfl))
  f36 := Tryd.func178.trans (congrArg some (by kernel_rfl))
  f37 := Tryd.func179.trans (congrArg some (by kernel_rfl))
  f38 := Tryd.func143.trans (congrArg some (by kernel_rfl))
  f39 := Tryd.func164.trans (congrArg some (by kernel_rfl))
  f40 := Tryd.func165.trans (congrArg some (by kernel_rfl))
  t0 := Tryd.underlying0
  a0 := Tryd.isAgg0
  z0 := Tryd.sizeOf0
  v0 := Tryd.zeroValue0
  i0 := by kernel_rfl
  t2 := Tryd.underlying2
  a2 := Tryd.isAgg2
  z2 := Tryd.sizeOf2
  v2 := Tryd.zeroValue2
  i2 := by kernel_rfl
  t3 := Tryd.underlying3
  a3 := Tryd.isAgg3
  z3 := Tryd.sizeOf3
  v3 := Tryd.zeroValue3
  i3 := by kernel_rfl
  t4 := Tryd.underlying4
  a4 := Tryd.isAgg4
  z4 := Tryd.sizeOf4
  v4 := Tryd.zeroValue4
  i4 := by kernel_rfl
  t5 := Tryd.underlying5
  a5 := Tryd.isAgg5
  z5 := Tryd.sizeOf5
  v5 := Tryd.zeroValue5
  i5 := by kernel_rfl
  t9 := Tryd.underlying9
  a9 := Tryd.isAgg9
  z9 := Tryd.sizeOf9
  v9 := Tryd.zeroValue9
  i9 := by kernel_rfl
  t20 := Tryd.underlying20
  a20 := Tryd.isAgg20
  z20 := Tryd.sizeOf20
  v20 := Tryd.zeroValue20
  i20 := by kernel_rfl
  t21 := Tryd.underlying21
  a21 := Tryd.isAgg21
  z21 := Tryd.sizeOf21
  v21 := Tryd.zeroValue21
  i21 := by kernel_rfl
  t22 := Tryd.underlying44
  a22 := Tryd.isAgg44
  z22 := Tryd.sizeOf44
  v22 := Tryd.zeroValue44
  i22 := by kernel_rfl
  t24 := Tryd.underlying115
  a24 := Tryd.isAgg115
  z24 := Tryd.sizeOf115
  v24 := Tryd.zeroValue115
  i24 := by kernel_rfl
  t25 := Tryd.underlying135
  a25 := Tryd.isAgg135
  z25 := Tryd.sizeOf135
  v25 := Tryd.zeroValue135
  i25 := by kernel_rfl
  t34 := Tryd.underlying159
  a34 := Tryd.isAgg159
  z34 := Tryd.sizeOf159
  v34 := Tryd.zeroValue159
  i34 := by kernel_rfl
  c34 := by kernel_rfl
  t36 := Tryd.underlying46
  a36 := Tryd.isAgg46
  z36 := Tryd.sizeOf46
  v36 := Tryd.zeroValue46
  i36 := by kernel_rfl
  t37 := Tryd.underlying111
  a37 := Tryd.isAgg111
  z37 := Tryd.sizeOf111
  v37 := Tryd.zeroValue111
  i37 := by kernel_rfl
  t39 := Tryd.underlying161
  a39 := Tryd.isAgg161
  z39 := Tryd.sizeOf161
  v39 := Tryd.zeroValue161
  i39 := by kernel_rfl
  t44 := Tryd.underlying173
  a44 := Tryd.isAgg173
  z44 := Tryd.sizeOf173
  v44 := Tryd.zeroValue173
  i44 := by kernel_rfl
  t47 := Tryd.underlying141
  a47 := Tryd.isAgg141
  z47 := Tryd.sizeOf141
  v47 := Tryd.zeroValue141
  i47 := by kernel_rfl
  t48 := Tryd.underlying178
  a48 := Tryd.isAgg178
  z48 := Tryd.sizeOf178
  v48 := Tryd.zeroValue178
  i48 := by kernel_rfl
  t50 := Tryd.underlying180
  a50 := Tryd.isAgg180
  z50 := Tryd.sizeOf180
  v50 := Tryd.zeroValue180
  i50 := by kernel_rfl
  t52 := Tryd.underlying152
  a52 := Tryd.isAgg152
  z52 := Tryd.sizeOf152
  v52 := Tryd.zeroValue152
  i52 := by kernel_rfl
  t55 := Tryd.underlying154
  a55 := Tryd.isAgg154
  z55 := Tryd.sizeOf154
  v55 := Tryd.zeroValue154
  i55 := by kernel_rfl
  t59 := Tryd.underlying165
  a59 := Tryd.isAgg165
  z59 := Tryd.sizeOf165
  v59 := Tryd.zeroValue165
  i59 := by kernel_rfl
  t60 := Tryd.underlying33
  a60 := Tryd.isAgg33
  z60 := Tryd.sizeOf33
  v60 := Tryd.zeroValue33
  i60 := by kernel_rfl
  t61 := Tryd.underlying166
  a61 := Tryd.isAgg166
  z61 := Tryd.sizeOf166
  t65 := Tryd.underlying167
  a65 := Tryd.isAgg167
  z65 := Tryd.sizeOf167
  v65 := Tryd.zeroValue167
  i65 := by kernel_rfl
  t66 := Tryd.underlying168
  a66 := Tryd.isAgg168
  z66 := Tryd.sizeOf168
  v66 := Tryd.zeroValue168
  i66 := by kernel_rfl
  t67 := Tryd.underlying118
  a67 := Tryd.isAgg118
  z67 := Tryd.sizeOf118
  v67 := Tryd.zeroValue118
  i67 := by kernel_rfl
  g0 := by kernel_rfl
  m0 := by kernel_rfl
  g1 := by kernel_rfl
  m1 := by kernel_rfl
  g2 := by kernel_rfl
  m2 := by kernel_rfl
  g3 := by kernel_rfl
  m3 := by kernel_rfl
  g4 := by kernel_rfl
  m4 := by kernel_rfl }
open Go.RowKit in
/-- strconv.ParseUint(s, 10, 32), AT EVERY STRING THAT SPELLS A uint32 ('Lib.parseUintB 32 s.data.toList = .ok u'): u, AND NO ERROR. (LAID: no walk: one application.) -/
theorem Tryd.strconv_ParseUint_10_at32_ok (s : ByteArray) (hmax : s.size ≤ 9223372036854775806) (u : Nat) (h : Lib.parseUintB 32 s.data.toList = .ok u) (w : World) :
    Calls Tryd.prog 135 #[.string s, .int .i64 10, .int .i64 32] w fun e w' => e = .returned (.tuple #[.int .u64 u, .nilIface]) ∧ (w' = w ∨ w' = Lib.bytesWorld w 5 s) := Any.strconv_ParseUint_10_at32_ok Tryd.laysPu14 s hmax u h w
open Go.RowKit in
/-- strconv.ParseUint(s, 10, 32), AT EVERY STRING THAT IS NO ROW OF DECIMAL DIGITS (a sign is a fault): 0, AND AN ERROR THAT IS NOT nil: a *NumError in a new block N: {Func: "ParseUint", Num: s's bytes, Err: what the variable ErrSyntax holds}. Of what was there nothing has turned. (LAID: no walk: one application.) -/
theorem Tryd.strconv_ParseUint_10_at32_syntax (s : ByteArray) (hlim : s.size ≤ 281474976710656) (h : Lib.parseUintB 32 s.data.toList = Lib.parseUintB 32 []) (ev : Value) (w : World) (hv : w.cell? ⟨4, 0, none⟩ = some ev) (hev : ev = .nilIface ∨ ∃ te pe, ev = .iface te pe) :
    Calls Tryd.prog 135 #[.string s, .int .i64 10, .int .i64 32] w fun e w' => ∃ N, e = .returned (.tuple #[.int .u64 0, .iface 161 (.pointer (some ⟨N, 0, none⟩))]) ∧ w.heap.size ≤ N ∧ w'.heap[N]? = some (.cells #[.string ⟨#[80, 97, 114, 115, 101, 85, 105, 110, 116]⟩, .string s, ev] 173 (0, 0)) ∧ Below w.heap.size w w' := Any.strconv_ParseUint_10_at32_syntax Tryd.laysPu14 s hlim (h.trans rfl) ev w hv hev
open Go.RowKit in
/-- strconv.ParseUint(s, 10, 32), AT EVERY NUMERAL THAT NO uint32 HOLDS: THE GREATEST uint32, AND AN ERROR THAT IS NOT nil: a *NumError in a new block N: {Func: "ParseUint", Num: s's bytes, Err: what the variable ErrRange holds}. Of what was there nothing has turned. (LAID: no walk: one application.) -/
theorem Tryd.strconv_ParseUint_10_at32_range (s : ByteArray) (hlim : s.size ≤ 281474976710656) (h : Lib.parseUintB 32 s.data.toList = .range) (ev : Value) (w : World) (hv : w.cell? ⟨5, 0, none⟩ = some ev) (hev : ev = .nilIface ∨ ∃ te pe, ev = .iface te pe) :
    Calls Tryd.prog 135 #[.string s, .int .i64 10, .int .i64 32] w fun e w' => ∃ N, e = .returned (.tuple #[.int .u64 4294967295, .iface 161 (.pointer (some ⟨N, 0, none⟩))]) ∧ w.heap.size ≤ N ∧ w'.heap[N]? = some (.cells #[.string ⟨#[80, 97, 114, 115, 101, 85, 105, 110, 116]⟩, .string s, ev] 173 (0, 0)) ∧ Below w.heap.size w w' := Any.strconv_ParseUint_10_at32_range Tryd.laysPu14 s hlim h ev w hv hev
end Go.Proofs
/- Numerals read, texts cut and looked through: the library's contracts, as ours. -/
set_option linter.unusedVariables false
set_option linter.unusedSimpArgs false
namespace Go.Ev.D
open Go.Proofs
def puintC : Ctr := { args := [.str, .int .i64, .int .i64], res := [.int .u64, .err], pre := some (fun (x : List UInt8 × Int × Int) => puPre x), fn := fun (x : List UInt8 × Int × Int) => puF x.1 }
theorem err_cell {S : Stab} {w : World} (hT : Tab S w) {g : Nat} (h : (g, isErr) ∈ anyC) : ∃ ev, w.cell? ⟨g, 0, none⟩ = some ev ∧ (ev = .nilIface ∨ ∃ te pe, ev = .iface te pe) := by
  obtain ⟨_, v, h1, h2⟩ := hT.2 _ h
  exact ⟨v, h2, h1⟩
theorem puint_ok : CtrOK Tryd.prog 135 puintC := by
  refine ⟨⟨_, fnOf_eq (by kernel_rfl), by kernel_rfl, by kernel_rfl⟩, ?_⟩
  intro w S us (x : List UInt8 × Int × Int) hS hT henc hp
  obtain ⟨hlen, h10, h32⟩ : puPre x := hp (fun (x : List UInt8 × Int × Int) => puPre x) rfl
  obtain ⟨s, b, n⟩ := x
  simp only at hlen h10 h32
  subst h10 h32
  obtain ⟨c1, us1, ⟨rfl, _⟩, rfl, c2, us2, ⟨rfl, _⟩, rfl, c3, ⟨rfl, _⟩, rfl⟩ := henc
  have hsz : (ByteArray.mk ⟨s⟩).size = s.length := rfl
  have hN : ∀ b o, (fun (_ _ : Nat) => False) b o → w.heap.size ≤ b ∧ b < w.heap.size := fun _ _ h => h.elim
  show Calls Tryd.prog 135 #[.string ⟨⟨s⟩⟩, .int .i64 10, .int .i64 32] w _
  cases h : Lib.parseUintB 32 s with
  | ok u =>
    refine (Tryd.strconv_ParseUint_10_at32_ok ⟨⟨s⟩⟩ (by rw [hsz]; omega) u h w).mono ?_
    rintro e w' ⟨rfl, hw⟩
    have hle : u ≤ 4294967295 := Lib.parseUintB_le h
    refine ⟨_, rfl, ?_, fun _ _ => False, fun _ _ h => h.elim, [.int .u64 u, .nilIface], ?_, rfl⟩
    · rcases hw with rfl | rfl
      · exact Grows.refl _
      · exact Grows.below (Lib.bytesWorld_below _ _ _)
    · have e : puintC.fn (s, 10, 32) = ((u : Int), false) := by show puF s = _; unfold puF; rw [h]
      rw [e]
      exact ⟨_, _, ⟨rfl, (has_u64 _).2 ⟨by omega, by omega⟩⟩, rfl, _, .inl ⟨rfl, rfl⟩, rfl⟩
  | range =>
    obtain ⟨ev, h1, h2⟩ := err_cell hT any5
    refine (Tryd.strconv_ParseUint_10_at32_range ⟨⟨s⟩⟩ (by rw [hsz]; omega) h ev w h1 h2).mono ?_
    rintro e w' ⟨N, rfl, _, _, hb⟩
    refine ⟨_, rfl, Grows.below hb, fun _ _ => False, fun _ _ h => h.elim, [.int .u64 4294967295, _], ?_, rfl⟩
    have e : puintC.fn (s, 10, 32) = ((4294967295 : Int), true) := by show puF s = _; unfold puF; rw [h]
    rw [e]
    exact ⟨_, _, ⟨rfl, (has_u64 _).2 ⟨by omega, by omega⟩⟩, rfl, _, .inr ⟨rfl, _, _, rfl⟩, rfl⟩
  | _ =>
    obtain ⟨ev, h1, h2⟩ := err_cell hT any4
    refine (Tryd.strconv_ParseUint_10_at32_syntax ⟨⟨s⟩⟩ (by rw [hsz]; omega) h ev w h1 h2).mono ?_
    rintro e w' ⟨N, rfl, _, _, hb⟩
    refine ⟨_, rfl, Grows.below hb, fun _ _ => False, fun _ _ h => h.elim, [.int .u64 0, _], ?_, rfl⟩
    have e : puintC.fn (s, 10, 32) = ((0 : Int), true) := by show puF s = _; unfold puF; rw [h]
    rw [e]
    exact ⟨_, _, ⟨rfl, (has_u64 _).2 ⟨by omega, by omega⟩⟩, rfl, _, .inr ⟨rfl, _, _, rfl⟩, rfl⟩
end Go.Ev.D
