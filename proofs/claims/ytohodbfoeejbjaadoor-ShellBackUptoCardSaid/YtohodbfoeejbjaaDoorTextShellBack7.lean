/- What a row reads, told in types. -/
import Derived.Deep.Slices
import Derived.ChangeSame
import Derived.Carry
import Derived.RowKit3
import Derived.OpenShut
import Derived.ChangeCalls
import Derived.Shelf.Strings.Builder1
import Derived.Shelf.Utf8.RuneCount
import Derived.Shelf.Strconv.Itoa0
import Derived.Shelf.Strconv.Itoa1
import Derived.Shelf.LaysM
import Derived.Shelf.Strconv.Itoa2
import Derived.Shelf.Strconv.Itoa3
import Derived.Shelf.Strings.Search1
import Derived.Shelf.Strings.Search2
import Derived.Shelf.Strings.Search3
import Derived.Shelf.Strings.Cut
import Derived.Shelf.Strings.Count
import Derived.Shelf.Strings.Shaped
import Derived.Shelf.Strings.Split
import Derived.Shelf.Strings.SplitShaped
import Derived.Shelf.Unicode.Decode
import Derived.Shelf.Strings.RuneCount
import Derived.Shelf.Strings.Explode
import Derived.Shelf.Unicode.DecodeSlow
import Derived.Shelf.Unicode.DecodeAny
import Derived.Test.YtohodbfoeejbjaaDoorProg
import Derived.Test.YtohodbfoeejbjaaDoorTextShellBack6

set_option linter.unusedVariables false
set_option linter.unusedSimpArgs false
namespace Go.Ev
open Go.ChangeShapes Go.RowKit

mutual
def bulk {H : Type} : DataW H → Nat
  | .lit (.string bytes) => bytes.length + 1
  | .lit _ => 1
  | .nil => 1
  | .ptr d => bulk d + 1
  | .slice elems spare => bulkAll elems + bulkAll spare + 1
  | .agg parts => bulkAll parts + 1
  | .iface _ d => bulk d + 1
  | .map entries => bulkEntries entries + 1
  | .held _ => 1
def bulkAll {H : Type} : List (DataW H) → Nat
  | [] => 0
  | d :: r => bulk d + bulkAll r
def bulkEntries {H : Type} : List (Lit × DataW H) → Nat
  | [] => 0
  | x :: r => bulkEntry x + bulkEntries r
def bulkEntry {H : Type} : Lit × DataW H → Nat
  | (.string bytes, d) => bytes.length + bulk d + 1
  | (_, d) => bulk d + 1
end

theorem bulk_mem {H : Type} {d : DataW H} : ∀ {l : List (DataW H)}, d ∈ l → bulk d ≤ bulkAll l
  | [], h => by simp at h
  | x :: l, h => by
    simp only [bulkAll]
    rcases List.mem_cons.1 h with rfl | h
    · omega
    · have := bulk_mem h; omega

theorem bulk_pos {H : Type} : ∀ (d : DataW H), 1 ≤ bulk d := by
  intro d
  cases d with
  | lit l => cases l <;> simp [bulk]
  | _ => simp [bulk]

theorem bulk_len {H : Type} : ∀ (l : List (DataW H)), l.length ≤ bulkAll l
  | [] => by simp [bulkAll]
  | x :: l => by
    have := bulk_len l
    have := bulk_pos x
    simp only [bulkAll, List.length_cons]
    omega

abbrev allS (w : World) : Stab := fun b _ => b < w.heap.size

section
variable {P : Program} {τ : Tys} {w : World} {H : Type} {enc : TypeId × Value → H}

theorem cellsOf_eq (TOK : TysOK P τ) {t : TypeId} {i : TInfo} (hi : τ t = some i) : P.cellsOf t = ncell i.g := by
  obtain ⟨ti, h1, h2, _⟩ := (TOK t i hi).info
  simp [Program.cellsOf, h1, h2]

/-- A chain, out of its fields. -/
theorem chain_enc {S : Stab} : ∀ {n : Nat} {g : GTy} {cs : List Value}, Chain n g → cs.length = ncell g → (∀ k, k < n → ∃ h x, pathTy g (fieldPath n k) = some h ∧ Enc w S h x ((cs.drop (offs g (fieldPath n k))).take (ncell h)) ∧ small h x) → ∃ x, Enc w S g x cs ∧ small g x
  | 1, .prod a .unit, cs, _, hl, h => by
    obtain ⟨h', x, h1, h2, h3⟩ := h 0 (by omega)
    simp only [fieldPath, pathTy, Option.some.injEq] at h1
    subst h1
    simp only [fieldPath, offs, List.drop_zero] at h2
    simp only [ncell, Nat.add_zero] at hl
    rw [List.take_of_length_le (by omega)] at h2
    exact ⟨(x, ()), ⟨cs, [], by simp, h2, rfl⟩, h3, trivial⟩
  | 2, .prod a b, cs, _, hl, h => by
    obtain ⟨h0, x, p1, p2, p3⟩ := h 0 (by omega)
    obtain ⟨h1, y, q1, q2, q3⟩ := h 1 (by omega)
    simp only [fieldPath, pathTy, Option.some.injEq] at p1 q1
    subst p1
    subst q1
    simp only [fieldPath, offs, List.drop_zero, Nat.add_zero] at p2 q2
    simp only [ncell] at hl
    rw [List.take_of_length_le (by simp; omega)] at q2
    exact ⟨(x, y), ⟨_, _, (List.take_append_drop (ncell a) cs).symm, p2, q2⟩, p3, q3⟩
  | n + 3, .prod a b, cs, hc, hl, h => by
    obtain ⟨h0, x, p1, p2, p3⟩ := h 0 (by omega)
    simp only [fieldPath, pathTy, Option.some.injEq] at p1
    subst p1
    simp only [fieldPath, offs, List.drop_zero] at p2
    simp only [ncell] at hl
    obtain ⟨y, hy, hy'⟩ := chain_enc (n := n + 2) (g := b) (cs := cs.drop (ncell a)) hc (by simp; omega) (fun k hk => by
      obtain ⟨h', z, r1, r2, r3⟩ := h (k + 1) (by omega)
      refine ⟨h', z, ?_, ?_, r3⟩
      · simpa only [fieldPath, pathTy] using r1
      · simp only [fieldPath, offs] at r2
        rw [List.drop_drop]
        exact r2)
    exact ⟨(x, y), ⟨_, _, (List.take_append_drop (ncell a) cs).symm, p2, hy⟩, p3, hy'⟩
theorem mapM_get {α β : Type} {f : α → Option β} : ∀ {l : List α} {r : List β}, l.mapM f = some r → r.length = l.length ∧ ∀ (k : Nat) (a : α), l[k]? = some a → ∃ b, r[k]? = some b ∧ f a = some b
  | [], r, h => by
    simp at h
    subst h
    simp
  | a :: l, r, h => by
    rw [List.mapM_cons] at h
    cases ha : f a with
    | none => simp [ha] at h
    | some b =>
      cases hl : l.mapM f with
      | none => simp [ha, hl] at h
      | some r' =>
        simp [ha, hl] at h
        subst h
        obtain ⟨h1, h2⟩ := mapM_get hl
        refine ⟨by simp [h1], fun k x hk => ?_⟩
        cases k with
        | zero => simp at hk; subst hk; exact ⟨b, by simp, ha⟩
        | succ k => simpa using h2 k x (by simpa using hk)

/-- A row of n, out of its places. -/
theorem row_enc {S : Stab} {g : GTy} : ∀ (n : Nat) {cs : List Value}, cs.length = n * ncell g → (∀ k, k < n → ∃ x, Enc w S g x ((cs.drop (k * ncell g)).take (ncell g)) ∧ small g x) → ∃ xs : List (den g), xs.length = n ∧ encL (Enc w S g) xs cs ∧ ∀ x, x ∈ xs → small g x
  | 0, cs, hl, _ => ⟨[], rfl, by simp at hl; exact hl, by simp⟩
  | n + 1, cs, hl, h => by
    obtain ⟨x, hx, hsx⟩ := h 0 (by omega)
    simp only [Nat.zero_mul, List.drop_zero] at hx
    rw [Nat.add_mul, Nat.one_mul] at hl
    obtain ⟨xs, h1, h2, h3⟩ := row_enc (S := S) (g := g) n (cs := cs.drop (ncell g)) (by rw [List.length_drop, hl]; omega) (fun k hk => by
      obtain ⟨y, hy, hsy⟩ := h (k + 1) (by omega)
      refine ⟨y, ?_, hsy⟩
      rw [List.drop_drop]
      rw [Nat.add_mul, Nat.one_mul, Nat.add_comm] at hy
      exact hy)
    exact ⟨x :: xs, by simp [h1], ⟨_, _, (List.take_append_drop (ncell g) cs).symm, hx, h2⟩, fun z hz => by
      rcases List.mem_cons.1 hz with rfl | hz
      · exact hsx
      · exact h3 z hz⟩
theorem cells_get {base : Nat} {a : Addr} {n : Nat} {cs : List Value} (h : w.cells? base a n = some cs) : cs.length = n ∧ ∀ j, j < n → ∃ v, cs[j]? = some v ∧ w.cell? (a.add j) = some v := by
  unfold World.cells? at h
  split at h
  · obtain ⟨h1, h2⟩ := mapM_get h
    refine ⟨by simpa using h1, fun j hj => ?_⟩
    obtain ⟨v, h3, h4⟩ := h2 j j (by simp [hj])
    exact ⟨v, h3, h4⟩
  · cases h

theorem cell_spot {a : Addr} {v : Value} (h : w.cell? a = some v) : a.spot = none ∧ a.block < w.heap.size := by
  unfold World.cell? at h
  split at h
  · rename_i c _ _ hc
    split at h
    · cases h
    · rename_i hs
      exact ⟨by simpa using hs, (Array.getElem?_eq_some_iff.1 hc).1⟩
  · cases h

theorem trod_enc (TOK : TysOK P τ) : ∀ (fuel : Nat) (t : TypeId) (i : TInfo) (cs : List Value) (x : DataW H × List MemPlace), τ t = some i → DataW.trod enc P w 0 (fun _ => true) true fuel t cs = some x → bulk x.1 ≤ 1048576 → ∃ y, Enc w (allS w) i.g y cs ∧ small i.g y
  | 0, t, i, cs, x, _, h, _ => by simp [DataW.trod] at h
  | fuel + 1, t, i, cs, x, hi, h, hb => by
    have T := TOK t i hi
    have hd := T.desc
    have hcl := cellsOf_eq (P := P) TOK hi
    obtain ⟨g, nf, by_, el⟩ := i
    cases g with
    | unit => exact hd.elim
    | err =>
      obtain ⟨ms, hd⟩ := hd
      simp only [DataW.trod, hd] at h
      split at h <;> first | exact ⟨false, .inl ⟨rfl, rfl⟩, trivial⟩ | exact ⟨true, .inr ⟨rfl, _, _, rfl⟩, trivial⟩ | (simp_all; done)
    | bool =>
      simp only at hd
      simp only [DataW.trod, hd] at h
      split at h <;> first | exact ⟨_, rfl, trivial⟩ | simp_all
    | int k =>
      simp only at hd
      simp only [DataW.trod, hd] at h
      split at h <;> try (simp_all; done)
      rename_i k' k2 n heq
      split at h
      · rename_i hk
        simp only [Option.some.injEq, TypeDesc.int.injEq] at heq
        obtain ⟨hk1, hk2⟩ := hk
        subst heq
        subst hk1
        simp only [Lit.wf, Bool.and_eq_true, decide_eq_true_eq] at hk2
        exact ⟨n, ⟨rfl, hk2⟩, trivial⟩
      · cases h
    | str =>
      simp only at hd
      simp only [DataW.trod, hd] at h
      split at h <;> try (simp_all; done)
      rename_i s' _
      split at h
      · rename_i hs
        simp only [Option.some.injEq] at h
        subst h
        simp only [bulk] at hb
        refine ⟨s'.data.toList, ⟨rfl, ?_⟩, ?_⟩
        · simp only [maxStr]; omega
        · show List.length _ ≤ _
          omega
      · cases h
    | prod a b =>
      obtain ⟨fs, q1, q2, q3, q4, q5⟩ := hd
      simp only [DataW.trod, q1] at h
      split at h
      · rename_i hl
        obtain ⟨xs, h1, h2⟩ := Option.map_eq_some_iff.1 h
        obtain ⟨h3, h4⟩ := mapM_get h1
        subst h2
        refine chain_enc q3 (by rw [hl, hcl]) (fun k hk => ?_)
        have hk' : k < fs.size := by omega
        obtain ⟨r1, r2, r3, j, r4, r5, r6⟩ := q5 k fs[k] (by simp [hk'])
        obtain ⟨y, h5, h6⟩ := h4 k fs[k] (by simp [hk'])
        have hby : bulk y.1 ≤ 1048576 := by
          have := bulk_mem (d := y.1) (l := xs.map (·.1)) (List.mem_map.2 ⟨y, List.mem_of_getElem? h5, rfl⟩)
          simp only [bulk] at hb
          omega
        obtain ⟨z, hz, hsz⟩ := trod_enc TOK fuel _ j _ _ r4 h6 hby
        refine ⟨j.g, z, r5, ?_, hsz⟩
        rw [r2, cellsOf_eq TOK r4] at hz
        exact hz
      · cases h
    | arr n a =>
      obtain ⟨e, j, q1, q2, q3⟩ := hd
      subst q3
      simp only [DataW.trod, q1] at h
      split at h
      · rename_i hl
        obtain ⟨xs, h1, h2⟩ := Option.map_eq_some_iff.1 h
        obtain ⟨h3, h4⟩ := mapM_get h1
        subst h2
        have hce := cellsOf_eq (P := P) TOK q2
        obtain ⟨zs, k1, k2, k3⟩ := row_enc (w := w) (S := allS w) (g := j.g) n (cs := cs) (by rw [hl, hcl]; rfl) (fun k hk => by
          obtain ⟨y, h5, h6⟩ := h4 k k (by simp [hk])
          have hby : bulk y.1 ≤ 1048576 := by
            have := bulk_mem (d := y.1) (l := xs.map (·.1)) (List.mem_map.2 ⟨y, List.mem_of_getElem? h5, rfl⟩)
            simp only [bulk] at hb
            omega
          rw [hce] at h6
          exact trod_enc TOK fuel _ j _ _ q2 h6 hby)
        exact ⟨zs, ⟨k1, k2⟩, k3⟩
      · cases h
    | sl a =>
      obtain ⟨e, j, ti, q1, q2, q3, q4, q5, q6, q7, q8, q9⟩ := hd
      subst q4
      have hce := cellsOf_eq (P := P) TOK q3
      have hadd : ∀ (blk off j : Nat), (⟨blk, off, none⟩ : Addr).add j = ⟨blk, off + j, none⟩ := by
        intro blk off j
        unfold Addr.add
        split
        · rename_i hj; subst hj; rfl
        · rfl
      simp only [DataW.trod, q1] at h
      split at h <;> try (simp_all; done)
      · exact ⟨[], ⟨none, 0, rfl, Nat.le_refl _, by simp, by simp [maxRow], .inl rfl⟩, by simp, by simp⟩
      · rename_i e' ad len cap heq
        simp only [Option.some.injEq, TypeDesc.slice.injEq] at heq
        subst heq
        split at h
        · rename_i hcond
          obtain ⟨elems, h1, h2⟩ := Option.bind_eq_some_iff.1 h
          obtain ⟨rest, h3, h4⟩ := Option.map_eq_some_iff.1 h2
          subst h4
          obtain ⟨k1, k2⟩ := mapM_get h1
          have hlen : len ≤ 1048576 := by
            have := bulk_len (elems.map (·.1))
            simp only [bulk] at hb
            simp at this k1
            omega
          have hel : ∀ k, k < len → ∃ ck z, w.cells? 0 (ad.add (k * ncell j.g)) (ncell j.g) = some ck ∧ Enc w (allS w) j.g z ck ∧ small j.g z := by
            intro k hk
            obtain ⟨y, h5, h6⟩ := k2 k k (by simp [hk])
            obtain ⟨ck, h7, h8⟩ := Option.bind_eq_some_iff.1 h6
            have hby : bulk y.1 ≤ 1048576 := by
              have := bulk_mem (d := y.1) (l := elems.map (·.1)) (List.mem_map.2 ⟨y, List.mem_of_getElem? h5, rfl⟩)
              simp only [bulk] at hb
              omega
            rw [hce] at h7
            obtain ⟨z, hz, hsz⟩ := trod_enc TOK fuel _ j _ _ q3 h8 hby
            exact ⟨ck, z, h7, hz, hsz⟩
          rcases Nat.eq_zero_or_pos len with h0 | h0
          · subst h0
            exact ⟨[], ⟨some ad, cap, rfl, Nat.zero_le _, by simp, by simp [maxRow], .inl rfl⟩, by simp, by simp⟩
          · have hspot : ad.spot = none := by
              obtain ⟨ck, z, h7, _⟩ := hel 0 h0
              obtain ⟨_, h8⟩ := cells_get h7
              obtain ⟨v, _, h9⟩ := h8 0 q9
              rw [Nat.zero_mul, show (ad.add 0).add 0 = ad from rfl] at h9
              exact (cell_spot h9).1
            obtain ⟨blk, off, spot⟩ := ad
            simp only at hspot
            subst hspot
            let ds : List Value := (List.range (len * ncell j.g)).map fun q => (w.cell? ⟨blk, off + q, none⟩).getD undef
            have hds : ∀ k, k < len → ∀ q, q < ncell j.g → ∃ v, w.cell? ⟨blk, off + (k * ncell j.g + q), none⟩ = some v := by
              intro k hk q hq
              obtain ⟨ck, z, h7, _⟩ := hel k hk
              obtain ⟨_, h8⟩ := cells_get h7
              obtain ⟨v, _, h9⟩ := h8 q hq
              rw [hadd, hadd] at h9
              exact ⟨v, by rw [← Nat.add_assoc]; exact h9⟩
            have hseg : ∀ k ck, k < len → w.cells? 0 (Addr.add ⟨blk, off, none⟩ (k * ncell j.g)) (ncell j.g) = some ck → (ds.drop (k * ncell j.g)).take (ncell j.g) = ck := by
              intro k ck hk hc
              obtain ⟨h8, h9⟩ := cells_get hc
              have hle : (k + 1) * ncell j.g ≤ len * ncell j.g := Nat.mul_le_mul_right _ hk
              rw [Nat.add_mul, Nat.one_mul] at hle
              apply List.ext_getElem?
              intro q
              rw [List.getElem?_take]
              split
              · rename_i hq
                obtain ⟨v, h10, h11⟩ := h9 q hq
                rw [hadd, hadd, Nat.add_assoc] at h11
                rw [List.getElem?_drop, h10]
                simp only [ds, List.getElem?_map]
                rw [List.getElem?_range (by omega)]
                simp [h11]
              · rename_i hq
                rw [List.getElem?_eq_none (by omega)]
            obtain ⟨zs, r1, r2, r3⟩ := row_enc (w := w) (S := allS w) (g := j.g) len (cs := ds) (by simp [ds]) (fun k hk => by
              obtain ⟨ck, z, h7, h8, h9⟩ := hel k hk
              exact ⟨z, by rw [hseg k ck hk h7]; exact h8, h9⟩)
            have hlb := (TOK e j q3).small.2
            have hlm : len * lbytes j.g ≤ 1048576 * 1048576 := Nat.mul_le_mul hlen hlb
            refine ⟨zs, ⟨some ⟨blk, off, none⟩, cap, by rw [r1], by rw [r1]; exact hcond.2.1, by rw [r1]; simp only [maxRow]; omega, by rw [r1]; simp only [maxRow]; omega, .inr ⟨blk, off, ds, rfl, r2, fun q v hv => ?_⟩⟩, ?_⟩
            rotate_left
            · exact ⟨by rw [r1]; exact hlen, r3⟩
            simp only [ds, List.getElem?_map] at hv
            by_cases hq : q < len * ncell j.g
            · rw [List.getElem?_range hq] at hv
              have hk : q / ncell j.g < len := by
                rw [Nat.div_lt_iff_lt_mul q9]; exact hq
              obtain ⟨v', hv'⟩ := hds (q / ncell j.g) hk (q % ncell j.g) (Nat.mod_lt _ q9)
              rw [show q / ncell j.g * ncell j.g + q % ncell j.g = q from by rw [Nat.mul_comm]; exact Nat.div_add_mod q _] at hv'
              simp only [hv', Option.map_some, Option.getD_some, Option.some.injEq] at hv
              subst hv
              exact ⟨hv', (cell_spot hv').2⟩
            · rw [List.getElem?_eq_none (by simp; omega)] at hv
              simp at hv
        · cases h

/-- An argument is as the machine hands it round. -/
theorem val_of_ok (TOK : TysOK P τ) {t : TypeId} {i : TInfo} (hi : τ t = some i) {base : Nat} {v : Value} (hok : Value.okWide P w .any base t v) (hl : v.cells.toList.length = ncell i.g) : v = toVal i.g v.cells.toList := by
  have T := TOK t i hi
  have ha := T.agg
  unfold toVal
  cases h : isAgg i.g with
  | true =>
    rw [h] at ha
    unfold Value.okWide at hok
    split at hok
    · obtain ⟨cs, rfl, _⟩ := hok; simp [Value.cells]
    · obtain ⟨cs, rfl, _⟩ := hok; simp [Value.cells]
    · rename_i h1 h2
      split at ha
      · rename_i hu; exact (h1 _ hu).elim
      · rename_i hu; exact (h2 _ _ hu).elim
      · cases ha
  | false =>
    rw [h] at ha
    have hna : ∀ cs, v ≠ .agg cs := by
      rintro cs rfl
      unfold Value.okWide at hok
      split at hok
      · rename_i hu; simp [hu] at ha
      · rename_i hu; simp [hu] at ha
      · unfold Cell.okWide at hok
        split at hok <;> try (rename_i hh; cases hh; done)
        unfold Cell.ok at hok
        split at hok <;> first | exact hok | (rename_i hh; cases hh)
    cases v <;> first | rfl | exact (hna _ rfl).elim

/-- The types of parameters. -/
def tysD (τ : Tys) : List TypeId → Option (List GTy)
  | [] => some []
  | t :: ts => match τ t, tysD τ ts with
    | some i, some gs => some (i.g :: gs)
    | _, _ => none

theorem trodAll_enc (TOK : TysOK P τ) {base : Nat} : ∀ {ts : List TypeId} {gs : List GTy} {vs : List Value} {ds : List (DataW H)} {ps : List MemPlace}, tysD τ ts = some gs → DataW.TrodAll enc P w 0 (fun _ => true) true ts vs ds ps → bulkAll ds ≤ 1048576 →
    (∀ (j : Nat) t v, ts[j]? = some t → vs[j]? = some v → Value.okWide P w .any base t v) → ∃ x, EncD w (allS w) gs x vs ∧ smallD gs x
  | [], gs, vs, ds, ps, hg, h, _, _ => by
    simp only [tysD, Option.some.injEq] at hg
    subst hg
    obtain ⟨rfl, _, _⟩ := ChangeShapes.trodAll_nil h
    exact ⟨(), rfl, trivial⟩
  | t :: ts, gs, vs, ds, ps, hg, h, hb, hok => by
    simp only [tysD] at hg
    split at hg
    · rename_i i gs' hi hgs
      simp only [Option.some.injEq] at hg
      subst hg
      obtain ⟨v, vs', d, ds', p, q, rfl, rfl, rfl, ⟨fuel, h1⟩, h2⟩ := ChangeShapes.trodAll_cons h
      simp only [bulkAll] at hb
      obtain ⟨x, hx, hsx⟩ := trod_enc TOK fuel t i _ _ hi h1 (by simp only; omega)
      obtain ⟨y, hy, hsy⟩ := trodAll_enc TOK (base := base) hgs h2 (by omega) (fun j t v h3 h4 => hok (j + 1) t v (by simpa using h3) (by simpa using h4))
      have hv := val_of_ok TOK hi (hok 0 t v rfl rfl) hx.len
      cases gs' with
      | nil =>
        have hvs : vs' = [] := hy
        subst hvs
        exact ⟨x, ⟨_, hx, by rw [← hv]⟩, hsx⟩
      | cons g' gs' => exact ⟨(x, y), ⟨_, vs', hx, by rw [← hv], hy⟩, hsx, hsy⟩
    · cases hg

theorem trodAll_stays (hl : laidOutB P = true) {W W' : World} (hb : RowKit.Below W.heap.size W W') {sp : Nat → Bool} : ∀ {ts : List TypeId} {vs : List Value} {ds : List (DataW H)} {ps : List MemPlace}, (∀ t ∈ ts, P.readableRec t = true ∧ t < P.types.size) →
    DataW.TrodAll enc P W 0 (fun _ => true) true ts vs ds ps → (∀ p ∈ ps, p.block < W.heap.size) → (∀ p ∈ ps, sp p.block = true) → DataW.TrodAll enc P W' 0 sp true ts vs ds ps
  | [], vs, ds, ps, _, h, _, _ => by
    obtain ⟨rfl, rfl, rfl⟩ := ChangeShapes.trodAll_nil h
    exact ChangeShapes.trodAll_mk0
  | t :: ts, vs, ds, ps, hr, h, hlt, hs => by
    obtain ⟨v, vs', d, ds', p, q, rfl, rfl, rfl, h1, h2⟩ := ChangeShapes.trodAll_cons h
    refine trodAll_cons_mk (WideElems.Trod_stays hl (hr t (by simp)).1 (hr t (by simp)).2 h1 (fun x hx => hb.same (hlt x (by simp [hx]))) (fun x hx => hs x (by simp [hx]))) ?_
    exact trodAll_stays hl hb (fun t ht => hr t (by simp [ht])) h2 (fun p hp => hlt p (by simp [hp])) (fun p hp => hs p (by simp [hp]))

theorem kept_of_grows {W W' : World} (h : Grows W W') (may : MemPlace → Prop) : W.keptBut W' may := by
  refine ⟨h.os, h.output, fun i hi => ?_⟩
  rw [h.block i hi]
  cases hh : W.heap[i]? with
  | none => trivial
  | some o => cases o <;> simp

theorem frozen_of_grows {W W' : World} (h : Grows W W') {b off : Nat} (hb : b < W.heap.size) : W'.frozen? ⟨b, off, none⟩ = W.frozen? ⟨b, off, none⟩ := by
  simp [World.frozen?, h.block b hb]

/-- A law that always answers 'true', as its row asks. -/
theorem law_contract (hl : laidOutB P = true) (TOK : TysOK P τ) {f : Nat} {fn : Func} {gs : List GTy} (hts : tysD τ fn.params.toList = some gs) (hread' : (fn.params.toList.all fun t => P.readableRec t && Nat.blt t P.types.size) = true)
    {tb : TypeId} (hr : fn.resultTypes = #[tb]) (htb : P.underlying tb = some .bool) (hc : CtrOK P f { args := gs, res := [.bool], pre := some (smallD gs), fn := fun _ => true })
    {s : ChangeSpec} (hvars : s.vars = []) (hs : ∀ ds : List (DataW H), ds.length = fn.params.toList.length → s.fn H ds = ⟨[.lit (.bool true)], ds, []⟩) {apart fresh handsOn again : Bool} {W : World} {base : Nat} {args : Array Value} {ds es : List (DataW H)} {before : List MemPlace}
    (hval : ∀ (j : Nat) t v, fn.params[j]? = some t → args[j]? = some v → Value.okWide P W .any base t v) (hW : DataW.Whole enc P fn.params.toList s.vars apart W args.toList ds es before) (hb' : bulkAll (ds ++ es) ≤ 1048576) (hT : Tab (allS W) W) :
    Calls P f args W fun e W' => ∃ v, e = .returned v ∧ s.post enc P fn apart fresh handsOn again W args v W' := by
  have hW' := hW
  obtain ⟨p, q, hA, hV, rfl, hfz, hnd⟩ := hW
  rw [hvars] at hV
  obtain ⟨rfl, rfl⟩ := trodVars_none hV
  have hb : bulkAll ds ≤ 1048576 := by rw [List.append_nil] at hb'; exact hb'
  have hread : ∀ t ∈ fn.params.toList, P.readableRec t = true ∧ t < P.types.size := by
    intro t ht
    have := List.all_eq_true.1 hread' t ht
    simp only [Bool.and_eq_true] at this
    exact ⟨this.1, by simpa [Nat.blt_eq] using this.2⟩
  obtain ⟨x, hx, hsm⟩ := trodAll_enc TOK (base := base) hts hA hb (fun j t v h1 h2 => hval j t v (by simpa using h1) (by simpa using h2))
  have hcall := hc.2 W (allS W) args.toList x (fun b o h => h) hT hx (fun p hp => by simp only [Option.some.injEq] at hp; subst hp; exact hsm)
  simp only [Array.toArray_toList] at hcall
  refine hcall.mono ?_
  rintro e W' ⟨v, he, hg, N, hN, us, ⟨cs, hcs, hus⟩, hv⟩
  subst hus
  simp only at hv
  have hcs' : cs = [.bool true] := hcs
  subst hcs'
  have hv' : v = .bool true := hv
  subst hv'
  have hlt : ∀ x ∈ p, x.block < W.heap.size := fun y hy => hW'.lt y (by simp [hy])
  have hbel : RowKit.Below W.heap.size W W' := ⟨hg.os, hg.tape, hg.output, hg.size, hg.block⟩
  have hlen := (trodAll_length hA).2
  have hfn : s.fn H (ds ++ []) = ⟨[.lit (.bool true)], ds, []⟩ := by
    rw [List.append_nil]; exact hs ds hlen
  have hres : ∀ (b : Nat) (sp : Nat → Bool) (hd : Bool), DataW.TrodAll enc P W' b sp hd fn.resultTypes.toList ((Value.bool true).resultList fn.resultTypes.size) [.lit (.bool true)] [] := by
    intro b sp hd
    rw [hr]
    exact ⟨[], [], shut_bool htb true, trodAll_mk0, rfl⟩
  have hargs : ∀ sp : Nat → Bool, (∀ x ∈ p, sp x.block = true) → DataW.TrodAll enc P W' 0 sp true fn.params.toList args.toList ds p := fun sp hsp => trodAll_stays hl hbel hread hA hlt hsp
  refine ⟨_, he, ds, [], p ++ [], [], p, [], hW', ?_, ?_, ?_, kept_of_grows hg _, fun _ => ⟨ok_one hr rfl (okWide_bool_mk htb _), _, [], ([] ++ p) ++ [], ⟨[] ++ p, [], trodAll_append (hargs _ (fun _ _ => rfl)) (hres _ _ _), ?_, rfl, ?_, ?_⟩, ?_⟩⟩
  · rw [hfn]; exact hres _ _ _
  · rw [hfn]; exact hargs _ (fun x hx => by simpa using hlt x hx)
  · rw [hfn, hvars]; rfl
  · rw [hvars]; rfl
  · intro b off hm
    have hm' : MemPlace.cell b off ∈ p := by simpa using hm
    have hb' : b < W.heap.size := hlt _ hm'
    rw [frozen_of_grows hg hb']
    exact hfz b off (by simpa using hm')
  · intro ha
    have := hnd ha
    simpa using this
  · intro x hx _
    simpa using hx
end
end Go.Ev
/-
  DERIVED: THE SHELF's CONTRACTS AT THIS DUMP, IN PLAIN WORDS (tools/lay-plain.mjs out of 'TrydLibA.lean', which tools/lay-shelf.mjs wrote): THE SAME DECLARATIONS UNDER THE SAME NAMES: 'import', 'namespace', 'open', 'def', 'theorem' AND NOTHING ELSE: no command of the shelf's: FOR A HAND-IN. Each laying: the table of numbers ('.._ren') and one theorem, a field a fact of the dump's own or the kernel's comparison; each contract: ONE APPLICATION.
-/
namespace Go.Proofs
open Go.Shelf
def Tryd.lays169_ren : Go.Shelf.Ren := ⟨fun | 169 => 113 | n => n, fun | 70 => 110 | 9 => 9 | 0 => 0 | 72 => 113 | 37 => 111 | 127 => 141 | 3 => 3 | 5 => 5 | n => n, fun | n => n⟩
theorem Tryd.lays169 : Go.Proofs.Lays.n169 Tryd.prog Tryd.lays169_ren := {
  mixed := by kernel_rfl
  f169 := Tryd.func113.trans (congrArg some (by kernel_rfl))
  t0 := Tryd.underlying0
  a0 := Tryd.isAgg0
  z0 := Tryd.sizeOf0
  v0 := Tryd.zeroValue0
  t3 := Tryd.underlying3
  a3 := Tryd.isAgg3
  z3 := Tryd.sizeOf3
  v3 := Tryd.zeroValue3
  t9 := Tryd.underlying9
  a9 := Tryd.isAgg9
  z9 := Tryd.sizeOf9
  v9 := Tryd.zeroValue9
  t37 := Tryd.underlying111
  a37 := Tryd.isAgg111
  z37 := Tryd.sizeOf111
  v37 := Tryd.zeroValue111
  t70 := Tryd.underlying110
  a70 := Tryd.isAgg110
  z70 := Tryd.sizeOf110
  v70 := Tryd.zeroValue110
  t72 := Tryd.underlying113
  a72 := Tryd.isAgg113
  z72 := Tryd.sizeOf113
  v72 := Tryd.zeroValue113
  t127 := Tryd.underlying141
  a127 := Tryd.isAgg141
  z127 := Tryd.sizeOf141
  v127 := Tryd.zeroValue141 }
theorem Tryd.Builder_Extra_169 : Builder.Extra Tryd.prog Tryd.lays169_ren := {
  sizeBuilder := by kernel_rfl
  liesBuilder := by kernel_rfl
  t5 := Tryd.underlying5
  a5 := Tryd.isAgg5
  z5 := Tryd.sizeOf5
  v5 := Tryd.zeroValue5
  infoByte := by kernel_rfl
  cellsByte := by kernel_rfl
  sizeByte := by kernel_rfl
  neB5 := by decide }
open Go.RowKit in
/-- (*strings.Builder).String: "String returns the accumulated string.": WHATEVER THE BUILDER HOLDS. (LAID: no walk: one application.) -/
theorem Tryd.Builder_String_any (B b : Nat) (l : List UInt8) (w : World) (h : Lib.IsBuilder 113 5 B b (Lib.byteCells l) w) (hBw : B ≤ w.heap.size) :
    Calls Tryd.prog 113 #[.pointer (some ⟨b, 0, none⟩)] w fun e w' => e = .returned (.string ⟨l.toArray⟩) ∧ Below B w w' := Any.Builder_String_any Tryd.lays169 Tryd.Builder_Extra_169 B b l w h hBw
def Tryd.lays283_ren : Go.Shelf.Ren := ⟨fun | 283 => 159 | n => n, fun | 3 => 3 | 9 => 9 | 4 => 4 | n => n, fun | n => n⟩
theorem Tryd.lays283 : Go.Proofs.Lays.n283 Tryd.prog Tryd.lays283_ren := {
  mixed := by kernel_rfl
  f283 := Tryd.func159.trans (congrArg some (by kernel_rfl))
  t3 := Tryd.underlying3
  a3 := Tryd.isAgg3
  z3 := Tryd.sizeOf3
  v3 := Tryd.zeroValue3
  t4 := Tryd.underlying4
  a4 := Tryd.isAgg4
  z4 := Tryd.sizeOf4
  v4 := Tryd.zeroValue4
  t9 := Tryd.underlying9
  a9 := Tryd.isAgg9
  z9 := Tryd.sizeOf9
  v9 := Tryd.zeroValue9 }
open Go.Lib in
/-- internal/strconv.small: "small returns the string for an i with 0 <= i < nSmalls.": i's decimal numeral. The world is as it was. (LAID: no walk: one application.) -/
theorem Tryd.internal_strconv_small (i : Nat) (h : i < 100) (w : World) :
    Calls Tryd.prog 159 #[.int .i64 i] w fun e w' => e = .returned (.string ⟨(Lib.decDigits i).toArray⟩) ∧ w' = w := Any.internal_strconv_small Tryd.lays283 i h w
def Tryd.laysM284_ren : Go.Shelf.Ren := ⟨fun | 284 => 160 | 129 => 177 | 317 => 176 | 318 => 178 | n => n, fun | 53 => 44 | 3 => 3 | 212 => 165 | 0 => 0 | 4 => 4 | 46 => 46 | 5 => 5 | 9 => 9 | n => n, fun | 17 => 0 | n => n⟩
theorem Tryd.laysM284 : Go.Proofs.LaysM.n284 Tryd.prog Tryd.laysM284_ren := {
  mixed := by kernel_rfl
  f129 := Tryd.func177.trans (congrArg some (by kernel_rfl))
  f284 := Tryd.func160.trans (congrArg some (by kernel_rfl))
  f317 := Tryd.func176.trans (congrArg some (by kernel_rfl))
  f318 := Tryd.func178.trans (congrArg some (by kernel_rfl))
  t0 := Tryd.underlying0
  a0 := Tryd.isAgg0
  z0 := Tryd.sizeOf0
  v0 := Tryd.zeroValue0
  t3 := Tryd.underlying3
  a3 := Tryd.isAgg3
  z3 := Tryd.sizeOf3
  v3 := Tryd.zeroValue3
  t4 := Tryd.underlying4
  a4 := Tryd.isAgg4
  z4 := Tryd.sizeOf4
  v4 := Tryd.zeroValue4
  t5 := Tryd.underlying5
  a5 := Tryd.isAgg5
  z5 := Tryd.sizeOf5
  v5 := Tryd.zeroValue5
  t9 := Tryd.underlying9
  a9 := Tryd.isAgg9
  z9 := Tryd.sizeOf9
  v9 := Tryd.zeroValue9
  t46 := Tryd.underlying46
  a46 := Tryd.isAgg46
  z46 := Tryd.sizeOf46
  v46 := Tryd.zeroValue46
  t53 := Tryd.underlying44
  a53 := Tryd.isAgg44
  z53 := Tryd.sizeOf44
  v53 := Tryd.zeroValue44
  t212 := Tryd.underlying165
  a212 := Tryd.isAgg165
  z212 := Tryd.sizeOf165
  v212 := Tryd.zeroValue165
  g17 := by kernel_rfl
  i0 := by kernel_rfl
  i3 := by kernel_rfl
  i4 := by kernel_rfl
  i5 := by kernel_rfl
  i9 := by kernel_rfl
  i46 := by kernel_rfl
  i53 := by kernel_rfl
  i212 := by kernel_rfl
  m17 := by kernel_rfl }
open Go.Lib in
/-- internal/strconv.numDigits, at a d that is not 0: THE NUMBER OF d's DECIMAL DIGITS. The world is as it was. (LAID: no walk: one application.) -/
theorem Tryd.internal_strconv_numDigits (u : Nat) (h1 : 1 ≤ u) (h2 : u < 18446744073709551616) (w : World) (htab : Lib.TabIs Tryd.prog w "internal/strconv.uint64pow10" .u64 Lib.pow10Tab) :
    Calls Tryd.prog 160 #[.int .u64 u] w fun e w' => e = .returned (.int .i64 (Lib.nDigits u)) ∧ w' = w := Any.internal_strconv_numDigits Tryd.laysM284 u h1 h2 w htab
def Tryd.lays285_ren : Go.Shelf.Ren := ⟨fun | 285 => 161 | n => n, fun | 37 => 111 | 53 => 44 | 3 => 3 | 4 => 4 | 51 => 33 | 9 => 9 | 5 => 5 | 0 => 0 | n => n, fun | n => n⟩
theorem Tryd.lays285 : Go.Proofs.Lays.n285 Tryd.prog Tryd.lays285_ren := {
  mixed := by kernel_rfl
  f285 := Tryd.func161.trans (congrArg some (by kernel_rfl))
  t0 := Tryd.underlying0
  a0 := Tryd.isAgg0
  z0 := Tryd.sizeOf0
  v0 := Tryd.zeroValue0
  t3 := Tryd.underlying3
  a3 := Tryd.isAgg3
  z3 := Tryd.sizeOf3
  v3 := Tryd.zeroValue3
  t4 := Tryd.underlying4
  a4 := Tryd.isAgg4
  z4 := Tryd.sizeOf4
  v4 := Tryd.zeroValue4
  t5 := Tryd.underlying5
  a5 := Tryd.isAgg5
  z5 := Tryd.sizeOf5
  v5 := Tryd.zeroValue5
  t9 := Tryd.underlying9
  a9 := Tryd.isAgg9
  z9 := Tryd.sizeOf9
  v9 := Tryd.zeroValue9
  t37 := Tryd.underlying111
  a37 := Tryd.isAgg111
  z37 := Tryd.sizeOf111
  v37 := Tryd.zeroValue111
  t51 := Tryd.underlying33
  a51 := Tryd.isAgg33
  z51 := Tryd.sizeOf33
  v51 := Tryd.zeroValue33
  t53 := Tryd.underlying44
  a53 := Tryd.isAgg44
  z53 := Tryd.sizeOf44
  v53 := Tryd.zeroValue44 }
open Go.RowKit Go.Sort Go.Lib in
/-- internal/strconv.formatBase10: "formatBase10 formats the decimal representation of u into a. The caller is responsible for ensuring that a is big enough to hold u. If a is too big, leading zeros will be filled in as needed.": THE ROW HOLDS u's DIGITS ('FmtInv .. 0 ..': every place t holds 'dg u (len - 1 - t)'); all else is as it was but for the count of draws. (LAID: no walk: one application.) -/
theorem Tryd.internal_strconv_formatBase10 (blk off cap : Nat) (u : Nat) (d : Array UInt8) (w : World) (hH : Holds (fun (b : UInt8) => Value.int .u8 (b.toNat : Int)) w blk off d) (hu : u < 10 ^ d.size) (hu64 : u < 18446744073709551616) (hsz : d.size < 4611686018427387904) :
    Calls Tryd.prog 161 #[.slice (some ⟨blk, off, none⟩) d.size cap, .int .u64 u] w fun e w' =>
      e = .returned (.tuple #[]) ∧ ∃ (n v' : Nat) (dk : Array UInt8), w' = (putRow (fun (b : UInt8) => Value.int .u8 (b.toNat : Int)) w blk off dk).drewN n ∧ FmtInv d.size u 0 v' dk := Any.internal_strconv_formatBase10 Tryd.lays285 blk off cap u d w hH hu hu64 hsz
def Tryd.laysM171_ren : Go.Shelf.Ren := ⟨fun | 171 => 96 | 243 => 139 | 246 => 158 | 283 => 159 | 284 => 160 | 285 => 161 | 286 => 162 | 129 => 177 | 317 => 176 | 318 => 178 | 319 => 179 | 320 => 143 | 337 => 164 | 338 => 165 | n => n, fun | 3 => 3 | 9 => 9 | 2 => 2 | 4 => 4 | 171 => 152 | 0 => 0 | 53 => 44 | 37 => 111 | 5 => 5 | 173 => 154 | 212 => 165 | 51 => 33 | 20 => 20 | 213 => 166 | 46 => 46 | 232 => 167 | 233 => 168 | n => n, fun | 17 => 0 | 18 => 1 | 19 => 2 | n => n⟩
theorem Tryd.laysM171 : Go.Proofs.LaysM.n171 Tryd.prog Tryd.laysM171_ren := {
  mixed := by kernel_rfl
  f129 := Tryd.func177.trans (congrArg some (by kernel_rfl))
  f171 := Tryd.func96.trans (congrArg some (by kernel_rfl))
  f243 := Tryd.func139.trans (congrArg some (by kernel_rfl))
  f246 := Tryd.func158.trans (congrArg some (by kernel_rfl))
  f283 := Tryd.func159.trans (congrArg some (by kernel_rfl))
  f284 := Tryd.func160.trans (congrArg some (by kernel_rfl))
  f285 := Tryd.func161.trans (congrArg some (by kernel_rfl))
  f286 := Tryd.func162.trans (congrArg some (by kernel_rfl))
  f317 := Tryd.func176.trans (congrArg some (by kernel_rfl))
  f318 := Tryd.func178.trans (congrArg some (by kernel_rfl))
  f319 := Tryd.func179.trans (congrArg some (by kernel_rfl))
  f320 := Tryd.func143.trans (congrArg some (by kernel_rfl))
  f337 := Tryd.func164.trans (congrArg some (by kernel_rfl))
  f338 := Tryd.func165.trans (congrArg some (by kernel_rfl))
  t0 := Tryd.underlying0
  a0 := Tryd.isAgg0
  z0 := Tryd.sizeOf0
  v0 := Tryd.zeroValue0
  t2 := Tryd.underlying2
  a2 := Tryd.isAgg2
  z2 := Tryd.sizeOf2
  v2 := Tryd.zeroValue2
  t3 := Tryd.underlying3
  a3 := Tryd.isAgg3
  z3 := Tryd.sizeOf3
  v3 := Tryd.zeroValue3
  t4 := Tryd.underlying4
  a4 := Tryd.isAgg4
  z4 := Tryd.sizeOf4
  v4 := Tryd.zeroValue4
  t5 := Tryd.underlying5
  a5 := Tryd.isAgg5
  z5 := Tryd.sizeOf5
  v5 := Tryd.zeroValue5
  t9 := Tryd.underlying9
  a9 := Tryd.isAgg9
  z9 := Tryd.sizeOf9
  v9 := Tryd.zeroValue9
  t20 := Tryd.underlying20
  a20 := Tryd.isAgg20
  z20 := Tryd.sizeOf20
  v20 := Tryd.zeroValue20
  t37 := Tryd.underlying111
  a37 := Tryd.isAgg111
  z37 := Tryd.sizeOf111
  v37 := Tryd.zeroValue111
  t46 := Tryd.underlying46
  a46 := Tryd.isAgg46
  z46 := Tryd.sizeOf46
  v46 := Tryd.zeroValue46
  t51 := Tryd.underlying33
  a51 := Tryd.isAgg33
  z51 := Tryd.sizeOf33
  v51 := Tryd.zeroValue33
  t53 := Tryd.underlying44
  a53 := Tryd.isAgg44
  z53 := Tryd.sizeOf44
  v53 := Tryd.zeroValue44
  t171 := Tryd.underlying152
  a171 := Tryd.isAgg152
  z171 := Tryd.sizeOf152
  v171 := Tryd.zeroValue152
  t173 := Tryd.underlying154
  a173 := Tryd.isAgg154
  z173 := Tryd.sizeOf154
  v173 := Tryd.zeroValue154
  t212 := Tryd.underlying165
  a212 := Tryd.isAgg165
  z212 := Tryd.sizeOf165
  v212 := Tryd.zeroValue165
  t213 := Tryd.underlying166
  a213 := Tryd.isAgg166
  z213 := Tryd.sizeOf166
  t232 := Tryd.underlying167
  a232 := Tryd.isAgg167
  z232 := Tryd.sizeOf167
  v232 := Tryd.zeroValue167
  t233 := Tryd.underlying168
  a233 := Tryd.isAgg168
  z233 := Tryd.sizeOf168
  v233 := Tryd.zeroValue168
  g17 := by kernel_rfl
  g18 := by kernel_rfl
  g19 := by kernel_rfl
  i0 := by kernel_rfl
  i2 := by kernel_rfl
  i3 := by kernel_rfl
  i4 := by kernel_rfl
  i5 := by kernel_rfl
  i9 := by kernel_rfl
  i20 := by kernel_rfl
  i37 := by kernel_rfl
  i46 := by kernel_rfl
  i51 := by kernel_rfl
  i53 := by kernel_rfl
  i171 := by kernel_rfl
  i173 := by kernel_rfl
  i212 := by kernel_rfl
  i232 := by kernel_rfl
  i233 := by kernel_rfl
  m17 := by kernel_rfl
  m18 := by kernel_rfl
  m19 := by kernel_rfl }
open Go.RowKit Go.Sort Go.Lib in
/-- strconv.Itoa: "Itoa is equivalent to FormatInt(int64(i), 10).": i's DECIMAL NUMERAL ('Lib.itoa': a '-' where i is negative, then the digits), FOR EVERY int. The world behind the call: the world before it, new blocks behind the heap (the library's 'var a [24]byte'), draws. (LAID: no walk: one application.) -/
theorem Tryd.strconv_Itoa (n : Int) (h0 : -9223372036854775808 ≤ n) (h1 : n ≤ 9223372036854775807) (w : World) (htab : Lib.TabIs Tryd.prog w "internal/strconv.uint64pow10" .u64 Lib.pow10Tab) :
    Calls Tryd.prog 96 #[.int .i64 n] w fun e w' => e = .returned (.string ⟨(Lib.itoa n).toArray⟩) ∧ ∃ k os, w' = grow (w.drewN k) os := Any.strconv_Itoa Tryd.laysM171 n h0 h1 w htab
end Go.Proofs
/- Numerals: the library's contract, as one of ours. -/
set_option linter.unusedVariables false
set_option linter.unusedSimpArgs false
namespace Go.Ev.D
open Go.Proofs
theorem pow_tab {S : Stab} {w : World} (h : Tab S w) : Lib.TabIs Tryd.prog w "internal/strconv.uint64pow10" .u64 Lib.pow10Tab := by
  have h0 := fun o => (h (0, Lib.pow10Tab.map fun z => Value.int .u64 z) (List.mem_cons_self ..) o).2
  have hg : Tryd.prog.globalNamed "internal/strconv.uint64pow10" = some 0 := by kernel_rfl
  unfold Lib.TabIs World.var?
  rw [hg]
  simp only [Option.bind_some]
  have h1 := h0 0
  have e1 : (Lib.pow10Tab.map fun z => Value.int IntKind.u64 z)[0]? = some (.int .u64 1) := by simp [Lib.pow10Tab]
  simp only at h0 h1
  rw [e1] at h1
  cases hb : w.heap[0]? with
  | none => simp [World.cell?, hb] at h1
  | some o =>
    cases o with
    | cells cs t fr =>
      simp only
      congr 1
      apply Array.ext_getElem?
      intro i
      have := h0 i
      simp only [World.cell?, hb] at this
      simpa using this
    | _ => simp [World.cell?, hb] at h1
def itoaC : Ctr := { args := [.int .i64], res := [.str], pre := none, fn := fun (x : Int) => itoaF x }
theorem itoa_ok : CtrOK Tryd.prog 96 itoaC := by
  refine ⟨⟨_, fnOf_eq (by kernel_rfl), by kernel_rfl, by kernel_rfl⟩, ?_⟩
  intro w S us (x : Int) hS hT henc _
  obtain ⟨cs, h1, rfl⟩ := henc
  obtain ⟨rfl, h2⟩ : cs = [.int .i64 x] ∧ IntKind.i64.has x := h1
  rw [has_i64] at h2
  refine (Tryd.strconv_Itoa x h2.1 h2.2 w (pow_tab hT)).mono ?_
  rintro e w' ⟨rfl, k, os, rfl⟩
  refine ⟨_, rfl, ⟨rfl, rfl, rfl, by simp [Go.Sort.grow], fun k hk => by simp [Go.Sort.grow, Array.getElem?_append_left hk]⟩, fun _ _ => False, fun _ _ h => h.elim, [_], ⟨[.string ⟨⟨itoaF x⟩⟩], ⟨rfl, by have := itoaF_len x; show (itoaF x).length ≤ maxStr; unfold maxStr; omega⟩, rfl⟩, ?_⟩
  rw [itoa_eq h2.1 h2.2]
  rfl
end Go.Ev.D
/- Commands as texts. -/
set_option linter.unusedVariables false
set_option linter.unusedSimpArgs false
namespace Go.Ev.D
open Go.Proofs
def swordC : Ctr := { args := [.int .i64], res := [.str], pre := none, fn := fun (x : Int) => wordK x }
def swordG : List (Nat × Ctr) := []
theorem sword_tree : (fun x : Int => evFn (mkC tys swordG []) (fnOf Tryd.prog 115) (resL swordC.args x) swordC.res) =
  (fun x =>
    Tree.br (x == (1 : Int)) (Tree.leaf [(108 : UInt8), (105 : UInt8), (110 : UInt8), (107 : UInt8)])
      (Tree.br (x == (2 : Int)) (Tree.leaf [(99 : UInt8), (117 : UInt8), (116 : UInt8)])
        (Tree.br (x == (3 : Int)) (Tree.leaf [(115 : UInt8), (101 : UInt8), (110 : UInt8), (100 : UInt8)])
          (Tree.br (x == (4 : Int)) (Tree.leaf [(115 : UInt8), (104 : UInt8), (111 : UInt8), (119 : UInt8)]) (Tree.leaf []))))) := by kernel_rfl
theorem sword_ok : CtrOK Tryd.prog 115 swordC :=
  fun_ok (G := swordG) (Λ := []) tysOK ctrs_nil mixed (by kernel_rfl) (by kernel_rfl) (by kernel_rfl) (by kernel_rfl) lp_nil fun (x : Int) hw _ => by
    rw [congrFun sword_tree x]
    exact holds_val (d := swordC.fn x) (by kernel_rfl) (by simp [Tree.safe])
def crightC : Ctr := { args := [gCmd], res := [.bool], pre := none, fn := fun (x : DCmd) => crightF x }
def crightG : List (Nat × Ctr) := [(72, rightC)]
theorem cright_tree : (fun x : DCmd => evFn (mkC tys crightG []) (fnOf Tryd.prog 60) (resL crightC.args x) crightC.res) =
  (fun x =>
    Tree.br (!rightF x.2.1) (Tree.leaf false)
      (Tree.br (x.1 == (1 : Int)) (Tree.leaf (bif decide (x.2.2 ≥ (1 : Int)) then decide (x.2.2 ≤ (65536 : Int)) else false))
        (Tree.br (x.1 == (3 : Int)) (Tree.leaf (bif decide (x.2.2 ≥ (1 : Int)) then decide (x.2.2 ≤ (64 : Int)) else false))
          (Tree.br (bif x.1 == (2 : Int) then x.1 == (2 : Int) else x.1 == (4 : Int)) (Tree.leaf (x.2.2 == (0 : Int))) (Tree.leaf false))))) := by kernel_rfl
theorem cright_ok : CtrOK Tryd.prog 60 crightC :=
  fun_ok (G := crightG) (Λ := []) tysOK (ctrs_cons right_ok ctrs_nil) mixed (by kernel_rfl) (by kernel_rfl) (by kernel_rfl) (by kernel_rfl) lp_nil fun (x : DCmd) hw _ => by
    rw [congrFun cright_tree x]
    exact holds_val (d := crightC.fn x) (by kernel_rfl) (by simp [Tree.safe])
def cprintG : List (Nat × Ctr) := [(60, crightC), (115, swordC), (100, withC), (104, ntextC), (96, itoaC)]
theorem cprintG_ok : CtrsOK Tryd.prog (fun f => lk f cprintG) := (ctrs_cons cright_ok (ctrs_cons sword_ok (ctrs_cons with_ok (ctrs_cons ntext_ok (ctrs_cons itoa_ok ctrs_nil)))))
def cprintC : Ctr := { args := [gCmd], res := [.str, .int .i64], pre := none, fn := fun (x : DCmd) => cprintF x }
theorem cprint_tree : (fun x : DCmd => evFn (mkC tys cprintG []) (fnOf Tryd.prog 56) (resL cprintC.args x) cprintC.res) =
  (fun x =>
    Tree.br (!crightF x) (Tree.leaf ([], (1 : Int)))
      (Tree.need (List.length (wordK x.1) + (1 : Nat) ≤ (4611686018427387904 : Nat))
        (Tree.need (List.length (wordK x.1 ++ [(32 : UInt8)]) + List.length (textN (withF (0 : Int) x.2.1)) ≤ (4611686018427387904 : Nat))
          (Tree.need (decide (x.2.2 > (0 : Int)) = true → (1 : Nat) + List.length (itoaF x.2.2) ≤ (4611686018427387904 : Nat))
            (Tree.need
              (decide (x.2.2 > (0 : Int)) = true → List.length (wordK x.1 ++ [(32 : UInt8)] ++ textN (withF (0 : Int) x.2.1)) + List.length ([(32 : UInt8)] ++ itoaF x.2.2) ≤ (4611686018427387904 : Nat))
              (Tree.leaf
                (bif decide (x.2.2 > (0 : Int)) then wordK x.1 ++ [(32 : UInt8)] ++ textN (withF (0 : Int) x.2.1) ++ ([(32 : UInt8)] ++ itoaF x.2.2)
                  else wordK x.1 ++ [(32 : UInt8)] ++ textN (withF (0 : Int) x.2.1),
                  (0 : Int)))))))) := by kernel_rfl
theorem cprint_ok : CtrOK Tryd.prog 56 cprintC :=
  fun_ok (G := cprintG) (Λ := []) tysOK cprintG_ok mixed (by kernel_rfl) (by kernel_rfl) (by kernel_rfl) (by kernel_rfl) lp_nil fun (x : DCmd) hw _ => by
    rw [congrFun cprint_tree x]
    have b1 := wordK_len x.1
    have b2 := textN_len (withF 0 x.2.1)
    have b3 := itoaF_len x.2.2
    refine holds_val (d := (([] : List UInt8), (0 : Int))) (by kernel_rfl) ?_
    simp only [Tree.safe, maxStr, List.length_append, List.length_cons, List.length_nil]
    refine ⟨fun _ => trivial, fun _ => ⟨by omega, by omega, ?_⟩⟩
    simp; omega
def swordsG : List (Nat × Ctr) := []
def swordsC : Ctr := { args := [.str], res := [.sl .str], pre := some (fun (x : List UInt8) => x.length ≤ 1000), fn := fun (x : List UInt8) => wordsF x }
def swordsD : LoopD where
  prom := [(3, 1003, 9, .str)]
  ts := [(0, .val .str), (3, .tip 1003), (4, .val (.int .i64)), (8, .ptr 8 .unit)]
  bs := [(1003, .row 9 .str false), (8, .iter)]
  pre := fun (x : (List UInt8 × Int × Unit) × List (List UInt8) × (List UInt8 × Nat) × Unit) => wPre x
  out := fun (x : (List UInt8 × Int × Unit) × List (List UInt8) × (List UInt8 × Nat) × Unit) => out1 0 (runF wStp (wMu x + 1) x)
theorem swords_round : (fun x : (List UInt8 × Int × Unit) × List (List UInt8) × (List UInt8 × Nat) × Unit => roundOf (mkC tys swordsG [(0, swordsD.spec)]) swordsD (loopB 0 (bodyOf (fnOf Tryd.prog 118))) x) =
  (fun x =>
    Tree.br (Nat.blt x.2.2.1.2 (List.length x.2.2.1.1))
      (Tree.need (Nat.blt x.2.2.1.2 (List.length x.2.2.1.1) = true)
        (Tree.need (Nat.blt x.2.2.1.2 (List.length x.2.2.1.1) = true)
          (Tree.need (((↑(decL x.2.2.1.1 x.2.2.1.2).1 : Int) == (32 : Int)) = true → (0 : Int) ≤ x.1.2.1 ∧ x.1.2.1 ≤ (↑x.2.2.1.2 : Int) ∧ (↑x.2.2.1.2 : Int) ≤ (↑(List.length x.1.1) : Int))
            (Tree.need (((↑(decL x.2.2.1.1 x.2.2.1.2).1 : Int) == (32 : Int)) = true → (List.length x.2.1 + (1 : Nat)) * (16 : Nat) ≤ (140737488355328 : Nat))
              (Tree.leaf
                (Ex.normal,
                  some
                    ((x.1.1, bif (↑(decL x.2.2.1.1 x.2.2.1.2).1 : Int) == (32 : Int) then IntKind.wrap IntKind.i64 ((↑x.2.2.1.2 : Int) + (1 : Int)) else x.1.2.1, ()),
                      bif (↑(decL x.2.2.1.1 x.2.2.1.2).1 : Int) == (32 : Int) then x.2.1 ++ [List.drop (Int.toNat x.1.2.1) (List.take (Int.toNat (↑x.2.2.1.2 : Int)) x.1.1)] else x.2.1,
                      (x.2.2.1.1, decN x.2.2.1.1 x.2.2.1.2), ())))))))
      (Tree.leaf (Ex.exit (0 : Nat), some ((x.1.1, x.1.2.1, ()), x.2.1, (x.2.2.1.1, decN x.2.2.1.1 x.2.2.1.2), ())))) := by kernel_rfl
theorem swords_tree : (fun x : List UInt8 => evFn (mkC tys swordsG [(0, swordsD.spec)]) (fnOf Tryd.prog 118) (resL swordsC.args x) swordsC.res) =
  (fun x =>
    Tree.need (wPre ((x, (0 : Int), PUnit.unit), [], (x, (0 : Nat)), PUnit.unit))
      (Tree.need
        ((0 : Int) ≤ (runF wStp (wMu ((x, (0 : Int), PUnit.unit), [], (x, (0 : Nat)), PUnit.unit) + (1 : Nat)) ((x, (0 : Int), PUnit.unit), [], (x, (0 : Nat)), PUnit.unit)).2.1.2.1 ∧
          (runF wStp (wMu ((x, (0 : Int), PUnit.unit), [], (x, (0 : Nat)), PUnit.unit) + (1 : Nat)) ((x, (0 : Int), PUnit.unit), [], (x, (0 : Nat)), PUnit.unit)).2.1.2.1 ≤
            (↑(List.length (runF wStp (wMu ((x, (0 : Int), PUnit.unit), [], (x, (0 : Nat)), PUnit.unit) + (1 : Nat)) ((x, (0 : Int), PUnit.unit), [], (x, (0 : Nat)), PUnit.unit)).2.1.1) : Int))
        (Tree.need
          ((List.length (runF wStp (wMu ((x, (0 : Int), PUnit.unit), [], (x, (0 : Nat)), PUnit.unit) + (1 : Nat)) ((x, (0 : Int), PUnit.unit), [], (x, (0 : Nat)), PUnit.unit)).2.2.1 + (1 : Nat)) *
              (16 : Nat) ≤
            (140737488355328 : Nat))
          (Tree.leaf
            ((runF wStp (wMu ((x, (0 : Int), PUnit.unit), [], (x, (0 : Nat)), PUnit.unit) + (1 : Nat)) ((x, (0 : Int), PUnit.unit), [], (x, (0 : Nat)), PUnit.unit)).2.2.1 ++
              [List.drop (Int.toNat (runF wStp (wMu ((x, (0 : Int), PUnit.unit), [], (x, (0 : Nat)), PUnit.unit) + (1 : Nat)) ((x, (0 : Int), PUnit.unit), [], (x, (0 : Nat)), PUnit.unit)).2.1.2.1)
                  (runF wStp (wMu ((x, (0 : Int), PUnit.unit), [], (x, (0 : Nat)), PUnit.unit) + (1 : Nat)) ((x, (0 : Int), PUnit.unit), [], (x, (0 : Nat)), PUnit.unit)).2.1.1]))))) := by kernel_rfl
theorem swords_loop : LoopOK (mkC tys swordsG [(0, swordsD.spec)]) swordsD.spec (loopB 0 (bodyOf (fnOf Tryd.prog 118))) :=
  loopF1_ok (id := 0) (D := swordsD) (fun x => congrFun swords_round x) wStp wMu (fun _ => rfl) wStp_ends fun (x : (List UInt8 × Int × Unit) × List (List UInt8) × (List UInt8 × Nat) × Unit) hp => by
    refine ⟨?_, fun hn => w_go hp hn⟩
    obtain ⟨⟨s, st, ⟨⟩⟩, out, ⟨y, pos⟩, ⟨⟩⟩ := x
    obtain ⟨h1, h2, h3, h4, h5, h6⟩ := hp
    simp only at h1 h2 h3 h4 h5 h6
    have e : IntKind.wrap IntKind.i64 ((pos : Int) + 1) = (pos : Int) + 1 := i64_id (by omega) (by omega)
    simp only [Tree.holds, wStp]
    rw [e, Int.toNat_natCast]
    refine ⟨fun h => ⟨h, h, fun _ => ⟨h3, h4, by omega⟩, fun _ => by omega, ?_⟩, fun h => ?_⟩
    · rw [h]
      cases ((decL y pos).1 : Int) == (32 : Int) <;> rfl
    · rw [h]; rfl
theorem swords_ok : CtrOK Tryd.prog 118 swordsC :=
  fun_ok (G := swordsG) (Λ := [(0, swordsD.spec)]) tysOK ctrs_nil mixed (by kernel_rfl) (by kernel_rfl) (by kernel_rfl) (by kernel_rfl) (lp_cons swords_loop lp_nil) fun (x : List UInt8) hw hp => by
    have hlen : x.length ≤ 1000 := hp (fun (x : List UInt8) => x.length ≤ 1000) rfl
    rw [congrFun swords_tree x]
    have key := w_all hlen
    generalize runF wStp (wMu ((x, (0 : Int), PUnit.unit), [], (x, (0 : Nat)), PUnit.unit) + (1 : Nat)) ((x, (0 : Int), PUnit.unit), [], (x, (0 : Nat)), PUnit.unit) = r at key ⊢
    obtain ⟨k1, k2, k3, k4, k5, k6⟩ := key
    simp only [Tree.holds]
    rw [k2]
    exact ⟨⟨rfl, hlen, Int.le_refl _, Int.le_refl _, Nat.zero_le _, Nat.le_refl _⟩, ⟨k3, k4⟩, by omega, k6⟩
def snumberG : List (Nat × Ctr) := []
def snumberC : Ctr := { args := [.str], res := [.int .i64], pre := none, fn := fun (x : List UInt8) => numberF x }
def snumberD : LoopD where
  prom := []
  ts := [(2, .val (.int .i64)), (3, .val (.int .i64)), (7, .ptr 7 .unit)]
  bs := [(7, .iter)]
  pre := fun (x : (Int × Int × Unit) × (List UInt8 × Nat) × Unit) => 0 ≤ x.1.2.1 ∧ x.1.2.1 ≤ 655369
  out := fun (x : (Int × Int × Unit) × (List UInt8 × Nat) × Unit) => out2 0 (runF numStp (numMu x + 1) x)
theorem snumber_round : (fun x : (Int × Int × Unit) × (List UInt8 × Nat) × Unit => roundOf (mkC tys snumberG [(0, snumberD.spec)]) snumberD (loopB 0 (bodyOf (fnOf Tryd.prog 121))) x) =
  (fun x =>
    Tree.br (Nat.blt x.2.1.2 (List.length x.2.1.1))
      (Tree.need (Nat.blt x.2.1.2 (List.length x.2.1.1) = true)
        (Tree.br (bif bif decide ((↑(decL x.2.1.1 x.2.1.2).1 : Int) < (48 : Int)) then true else decide ((↑(decL x.2.1.1 x.2.1.2).1 : Int) > (57 : Int)) then true else decide (x.1.2.1 > (65536 : Int)))
          (Tree.leaf (Ex.ret, some (((-1 : Int), x.1.2.1, ()), (x.2.1.1, decN x.2.1.1 x.2.1.2), ())))
          (Tree.leaf
            (Ex.normal,
              some
                ((x.1.1,
                    IntKind.wrap IntKind.i64 (IntKind.wrap IntKind.i64 (x.1.2.1 * (10 : Int)) + IntKind.wrap IntKind.i64 (IntKind.wrap IntKind.i32 ((↑(decL x.2.1.1 x.2.1.2).1 : Int) - (48 : Int)))),
                    ()),
                  (x.2.1.1, decN x.2.1.1 x.2.1.2), ())))))
      (Tree.leaf (Ex.exit (0 : Nat), some ((x.1.1, x.1.2.1, ()), (x.2.1.1, decN x.2.1.1 x.2.1.2), ())))) := by kernel_rfl
theorem snumber_tree : (fun x : List UInt8 => evFn (mkC tys snumberG [(0, snumberD.spec)]) (fnOf Tryd.prog 121) (resL snumberC.args x) snumberC.res) =
  (fun x =>
    Tree.need ((0 : Int) ≤ (0 : Int) ∧ (0 : Int) ≤ (655369 : Int))
      (Tree.br (isRet (runF numStp (numMu (((0 : Int), (0 : Int), PUnit.unit), (x, (0 : Nat)), PUnit.unit) + (1 : Nat)) (((0 : Int), (0 : Int), PUnit.unit), (x, (0 : Nat)), PUnit.unit)).1)
        (Tree.leaf (runF numStp (numMu (((0 : Int), (0 : Int), PUnit.unit), (x, (0 : Nat)), PUnit.unit) + (1 : Nat)) (((0 : Int), (0 : Int), PUnit.unit), (x, (0 : Nat)), PUnit.unit)).2.1.1)
        (Tree.br (x == []) (Tree.leaf (-1 : Int))
          (Tree.leaf (runF numStp (numMu (((0 : Int), (0 : Int), PUnit.unit), (x, (0 : Nat)), PUnit.unit) + (1 : Nat)) (((0 : Int), (0 : Int), PUnit.unit), (x, (0 : Nat)), PUnit.unit)).2.1.2.1)))) := by kernel_rfl
theorem snumber_loop : LoopOK (mkC tys snumberG [(0, snumberD.spec)]) snumberD.spec (loopB 0 (bodyOf (fnOf Tryd.prog 121))) :=
  loopF2_ok (id := 0) (D := snumberD) (fun x => congrFun snumber_round x) numStp numMu (fun _ => rfl) numStp_ends fun (x : (Int × Int × Unit) × (List UInt8 × Nat) × Unit) hp => by
    refine ⟨?_, fun hn => num_go hn hp⟩
    obtain ⟨⟨a, n, ⟨⟩⟩, ⟨y, pos⟩, ⟨⟩⟩ := x
    obtain ⟨h1, h2⟩ := hp
    simp only at h1 h2
    have hr := decL_lt y pos
    have e1 : IntKind.wrap IntKind.i64 (n * 10) = n * 10 := i64_id (by omega) (by omega)
    have e2 : IntKind.wrap IntKind.i64 (IntKind.wrap IntKind.i32 (((decL y pos).1 : Int) - 48)) = ((decL y pos).1 : Int) - 48 := by
      rw [show IntKind.wrap IntKind.i32 (((decL y pos).1 : Int) - 48) = ((decL y pos).1 : Int) - 48 from i32_id (by omega) (by omega)]
      exact i64_id (by omega) (by omega)
    have e3 : IntKind.wrap IntKind.i64 (n * 10 + (((decL y pos).1 : Int) - 48)) = n * 10 + (((decL y pos).1 : Int) - 48) := i64_id (by omega) (by omega)
    simp only [Tree.holds, numStp]
    rw [e1, e2, e3]
    refine ⟨fun h => ⟨h, fun h2 => ?_, fun h2 => ?_⟩, fun h => ?_⟩
    · have h2' : badD 65536 ((decL y pos).1 : Int) n = true := h2
      rw [h, h2']; rfl
    · have h2' : badD 65536 ((decL y pos).1 : Int) n = false := h2
      rw [h, h2']; rfl
    · rw [h]; rfl
theorem snumber_ok : CtrOK Tryd.prog 121 snumberC :=
  fun_ok (G := snumberG) (Λ := [(0, snumberD.spec)]) tysOK ctrs_nil mixed (by kernel_rfl) (by kernel_rfl) (by kernel_rfl) (by kernel_rfl) (lp_cons snumber_loop lp_nil) fun (x : List UInt8) hw hp => by
    rw [congrFun snumber_tree x]
    have key := num_all x 0
    generalize runF numStp (numMu (((0 : Int), (0 : Int), PUnit.unit), (x, (0 : Nat)), PUnit.unit) + (1 : Nat)) (((0 : Int), (0 : Int), PUnit.unit), (x, (0 : Nat)), PUnit.unit) = r at key ⊢
    have e : snumberC.fn x = numberF x := rfl
    rw [e]
    unfold numberF
    simp only [Tree.holds]
    refine ⟨⟨by omega, by omega⟩, fun h2 => ?_, fun h2 => ⟨fun h3 => ?_, fun h3 => ?_⟩⟩
    · cases hg : numGo 65536 x 0 with
      | none => rw [hg] at key; exact key.2
      | some v => rw [hg] at key; rw [key.1] at h2; cases h2
    · cases hg : numGo 65536 x 0 with
      | none => rfl
      | some v => simp only; rw [h3]; rfl
    · cases hg : numGo 65536 x 0 with
      | none => rw [hg] at key; rw [key.1] at h2; cases h2
      | some v => rw [hg] at key; simp only; rw [h3]; exact key.2
def cparseG : List (Nat × Ctr) := [(56, cprintC), (115, swordC), (118, swordsC), (121, snumberC), (119, nparseC), (120, lowestC)]
theorem cparseG_ok : CtrsOK Tryd.prog (fun f => lk f cparseG) := (ctrs_cons cprint_ok (ctrs_cons sword_ok (ctrs_cons swords_ok (ctrs_cons snumber_ok (ctrs_cons nparse_ok (ctrs_cons lowest_ok ctrs_nil))))))
def cparseC2 : Ctr := { args := [.str], res := [gCmd, .int .i64], pre := none, fn := fun (x : List UInt8) => cparseF x }
noncomputable def cparseL : List (Nat × LoopSpec) := [(0, rounds (mkC tys cparseG []) (loopB 0 (bodyOf (fnOf Tryd.prog 58))) [] [4, 5, 6] [5] 5)]
theorem cparse_tree : (fun x : List UInt8 => evFn (mkC tys cparseG cparseL) (fnOf Tryd.prog 58) (resL [.str] x) cparseC2.res) =
  (fun x =>
    Tree.br (decide ((↑(List.length x) : Int) > (40 : Int))) (Tree.leaf (((0 : Int), (0 : Int), (0 : Int)), (4 : Int)))
      (Tree.need (List.length x ≤ (1000 : Nat))
        (Tree.br (bif decide ((↑(List.length (wordsF x)) : Int) < (2 : Int)) then true else decide ((↑(List.length (wordsF x)) : Int) > (3 : Int)))
          (Tree.leaf (((0 : Int), (0 : Int), (0 : Int)), (3 : Int)))
          (Tree.br true
            (Tree.need ((0 : Int) ≤ (0 : Int) ∧ (0 : Int) < (↑(List.length (wordsF x)) : Int))
              (Tree.br true
                (Tree.need ((0 : Int) ≤ (0 : Int) ∧ (0 : Int) < (↑(List.length (wordsF x)) : Int))
                  (Tree.br true
                    (Tree.need ((0 : Int) ≤ (0 : Int) ∧ (0 : Int) < (↑(List.length (wordsF x)) : Int))
                      (Tree.br true
                        (Tree.need ((0 : Int) ≤ (0 : Int) ∧ (0 : Int) < (↑(List.length (wordsF x)) : Int))
                          (Tree.br false (Tree.need ((0 : Int) ≤ (0 : Int) ∧ (0 : Int) < (↑(List.length (wordsF x)) : Int)) Tree.stuck)
                            (Tree.need ((0 : Int) ≤ (1 : Int) ∧ (1 : Int) < (↑(List.length (wordsF x)) : Int))
                              (Tree.br ((nparseF (List.getD (wordsF x) (1 : Nat) [])).2 != (0 : Int)) (Tree.leaf (((0 : Int), (0 : Int), (0 : Int)), (3 : Int)))
                                (Tree.need (((↑(List.length (wordsF x)) : Int) == (3 : Int)) = true → (0 : Int) ≤ (2 : Int) ∧ (2 : Int) < (↑(List.length (wordsF x)) : Int))
                                  (Tree.br
                                    (bif
                                        (cprintF
                                              (bif (↑(List.length (wordsF x)) : Int) == (3 : Int) then
                                                ((bif wordK (4 : Int) == List.getD (wordsF x) (0 : Nat) [] then
                                                      ((4 : Int),
                                                        (bif wordK (3 : Int) == List.getD (wordsF x) (0 : Nat) [] then
                                                            ((3 : Int),
                                                              (bif wordK (2 : Int) == List.getD (wordsF x) (0 : Nat) [] then
                                                                  ((2 : Int),
                                                                    (bif wordK (1 : Int) == List.getD (wordsF x) (0 : Nat) [] then ((1 : Int), (0 : Int), (0 : Int))
                                                                      else ((0 : Int), (0 : Int), (0 : Int))).2)
                                                                else
                                                                  bif wordK (1 : Int) == List.getD (wordsF x) (0 : Nat) [] then ((1 : Int), (0 : Int), (0 : Int))
                                                                  else ((0 : Int), (0 : Int), (0 : Int))).2)
                                                          else
                                                            bif wordK (2 : Int) == List.getD (wordsF x) (0 : Nat) [] then
                                                              ((2 : Int),
                                                                (bif wordK (1 : Int) == List.getD (wordsF x) (0 : Nat) [] then ((1 : Int), (0 : Int), (0 : Int))
                                                                  else ((0 : Int), (0 : Int), (0 : Int))).2)
                                                            else
                                                              bif wordK (1 : Int) == List.getD (wordsF x) (0 : Nat) [] then ((1 : Int), (0 : Int), (0 : Int)) else ((0 : Int), (0 : Int), (0 : Int))).2)
                                                    else
                                                      bif wordK (3 : Int) == List.getD (wordsF x) (0 : Nat) [] then
                                                        ((3 : Int),
                                                          (bif wordK (2 : Int) == List.getD (wordsF x) (0 : Nat) [] then
                                                              ((2 : Int),
                                                                (bif wordK (1 : Int) == List.getD (wordsF x) (0 : Nat) [] then ((1 : Int), (0 : Int), (0 : Int))
                                                                  else ((0 : Int), (0 : Int), (0 : Int))).2)
                                                            else
                                                              bif wordK (1 : Int) == List.getD (wordsF x) (0 : Nat) [] then ((1 : Int), (0 : Int), (0 : Int)) else ((0 : Int), (0 : Int), (0 : Int))).2)
                                                      else
                                                        bif wordK (2 : Int) == List.getD (wordsF x) (0 : Nat) [] then
                                                          ((2 : Int),
                                                            (bif wordK (1 : Int) == List.getD (wordsF x) (0 : Nat) [] then ((1 : Int), (0 : Int), (0 : Int)) else ((0 : Int), (0 : Int), (0 : Int))).2)
                                                        else bif wordK (1 : Int) == List.getD (wordsF x) (0 : Nat) [] then ((1 : Int), (0 : Int), (0 : Int)) else ((0 : Int), (0 : Int), (0 : Int))).1,
                                                  lowestF (nparseF (List.getD (wordsF x) (1 : Nat) [])).1, numberF (List.getD (wordsF x) (2 : Nat) []))
                                              else
                                                ((bif wordK (4 : Int) == List.getD (wordsF x) (0 : Nat) [] then
                                                      ((4 : Int),
                                                        (bif wordK (3 : Int) == List.getD (wordsF x) (0 : Nat) [] then
                                                            ((3 : Int),
                                                              (bif wordK (2 : Int) == List.getD (wordsF x) (0 : Nat) [] then
                                                                  ((2 : Int),
                                                                    (bif wordK (1 : Int) == List.getD (wordsF x) (0 : Nat) [] then ((1 : Int), (0 : Int), (0 : Int))
                                                                      else ((0 : Int), (0 : Int), (0 : Int))).2)
                                                                else
                                                                  bif wordK (1 : Int) == List.getD (wordsF x) (0 : Nat) [] then ((1 : Int), (0 : Int), (0 : Int))
                                                                  else ((0 : Int), (0 : Int), (0 : Int))).2)
                                                          else
                                                            bif wordK (2 : Int) == List.getD (wordsF x) (0 : Nat) [] then
                                                              ((2 : Int),
                                                                (bif wordK (1 : Int) == List.getD (wordsF x) (0 : Nat) [] then ((1 : Int), (0 : Int), (0 : Int))
                                                                  else ((0 : Int), (0 : Int), (0 : Int))).2)
                                                            else
                                                              bif wordK (1 : Int) == List.getD (wordsF x) (0 : Nat) [] then ((1 : Int), (0 : Int), (0 : Int)) else ((0 : Int), (0 : Int), (0 : Int))).2)
                                                    else
                                                      bif wordK (3 : Int) == List.getD (wordsF x) (0 : Nat) [] then
                                                        ((3 : Int),
                                                          (bif wordK (2 : Int) == List.getD (wordsF x) (0 : Nat) [] then
                                                              ((2 : Int),
                                                                (bif wordK (1 : Int) == List.getD (wordsF x) (0 : Nat) [] then ((1 : Int), (0 : Int), (0 : Int))
                                                                  else ((0 : Int), (0 : Int), (0 : Int))).2)
                                                            else
                                                              bif wordK (1 : Int) == List.getD (wordsF x) (0 : Nat) [] then ((1 : Int), (0 : Int), (0 : Int)) else ((0 : Int), (0 : Int), (0 : Int))).2)
                                                      else
                                                        bif wordK (2 : Int) == List.getD (wordsF x) (0 : Nat) [] then
                                                          ((2 : Int),
                                                            (bif wordK (1 : Int) == List.getD (wordsF x) (0 : Nat) [] then ((1 : Int), (0 : Int), (0 : Int)) else ((0 : Int), (0 : Int), (0 : Int))).2)
                                                        else bif wordK (1 : Int) == List.getD (wordsF x) (0 : Nat) [] then ((1 : Int), (0 : Int), (0 : Int)) else ((0 : Int), (0 : Int), (0 : Int))).1,
                                                  lowestF (nparseF (List.getD (wordsF x) (1 : Nat) [])).1,
                                                  (bif wordK (4 : Int) == List.getD (wordsF x) (0 : Nat) [] then
                                                        ((4 : Int),
                                                          (bif wordK (3 : Int) == List.getD (wordsF x) (0 : Nat) [] then
                                                              ((3 : Int),
                                                                (bif wordK (2 : Int) == List.getD (wordsF x) (0 : Nat) [] then
                                                                    ((2 : Int),
                                                                      (bif wordK (1 : Int) == List.getD (wordsF x) (0 : Nat) [] then ((1 : Int), (0 : Int), (0 : Int))
                                                                        else ((0 : Int), (0 : Int), (0 : Int))).2)
                                                                  else
                                                                    bif wordK (1 : Int) == List.getD (wordsF x) (0 : Nat) [] then ((1 : Int), (0 : Int), (0 : Int))
                                                                    else ((0 : Int), (0 : Int), (0 : Int))).2)
                                                            else
                                                              bif wordK (2 : Int) == List.getD (wordsF x) (0 : Nat) [] then
                                                                ((2 : Int),
                                                                  (bif wordK (1 : Int) == List.getD (wordsF x) (0 : Nat) [] then ((1 : Int), (0 : Int), (0 : Int))
                                                                    else ((0 : Int), (0 : Int), (0 : Int))).2)
                                                              else
                                                                bif wordK (1 : Int) == List.getD (wordsF x) (0 : Nat) [] then ((1 : Int), (0 : Int), (0 : Int)) else ((0 : Int), (0 : Int), (0 : Int))).2)
                                                      else
                                                        bif wordK (3 : Int) == List.getD (wordsF x) (0 : Nat) [] then
                                                          ((3 : Int),
                                                            (bif wordK (2 : Int) == List.getD (wordsF x) (0 : Nat) [] then
                                                                ((2 : Int),
                                                                  (bif wordK (1 : Int) == List.getD (wordsF x) (0 : Nat) [] then ((1 : Int), (0 : Int), (0 : Int))
                                                                    else ((0 : Int), (0 : Int), (0 : Int))).2)
                                                              else
                                                                bif wordK (1 : Int) == List.getD (wordsF x) (0 : Nat) [] then ((1 : Int), (0 : Int), (0 : Int)) else ((0 : Int), (0 : Int), (0 : Int))).2)
                                                        else
                                                          bif wordK (2 : Int) == List.getD (wordsF x) (0 : Nat) [] then
                                                            ((2 : Int),
                                                              (bif wordK (1 : Int) == List.getD (wordsF x) (0 : Nat) [] then ((1 : Int), (0 : Int), (0 : Int)) else ((0 : Int), (0 : Int), (0 : Int))).2)
                                                          else
                                                            bif wordK (1 : Int) == List.getD (wordsF x) (0 : Nat) [] then ((1 : Int), (0 : Int), (0 : Int))
                                                            else ((0 : Int), (0 : Int), (0 : Int))).2.2))).2 !=
                                          (0 : Int) then
                                      true
                                    else
                                      !(cprintF
                                              (bif (↑(List.length (wordsF x)) : Int) == (3 : Int) then
                                                ((bif wordK (4 : Int) == List.getD (wordsF x) (0 : Nat) [] then
                                                      ((4 : Int),
                                                        (bif wordK (3 : Int) == List.getD (wordsF x) (0 : Nat) [] then
                                                            ((3 : Int),
                                                              (bif wordK (2 : Int) == List.getD (wordsF x) (0 : Nat) [] then
                                                                  ((2 : Int),
                                                                    (bif wordK (1 : Int) == List.getD (wordsF x) (0 : Nat) [] then ((1 : Int), (0 : Int), (0 : Int))
                                                                      else ((0 : Int), (0 : Int), (0 : Int))).2)
                                                                else
                                                                  bif wordK (1 : Int) == List.getD (wordsF x) (0 : Nat) [] then ((1 : Int), (0 : Int), (0 : Int))
                                                                  else ((0 : Int), (0 : Int), (0 : Int))).2)
                                                          else
                                                            bif wordK (2 : Int) == List.getD (wordsF x) (0 : Nat) [] then
                                                              ((2 : Int),
                                                                (bif wordK (1 : Int) == List.getD (wordsF x) (0 : Nat) [] then ((1 : Int), (0 : Int), (0 : Int))
                                                                  else ((0 : Int), (0 : Int), (0 : Int))).2)
                                                            else
                                                              bif wordK (1 : Int) == List.getD (wordsF x) (0 : Nat) [] then ((1 : Int), (0 : Int), (0 : Int)) else ((0 : Int), (0 : Int), (0 : Int))).2)
                                                    else
                                                      bif wordK (3 : Int) == List.getD (wordsF x) (0 : Nat) [] then
                                                        ((3 : Int),
                                                          (bif wordK (2 : Int) == List.getD (wordsF x) (0 : Nat) [] then
                                                              ((2 : Int),
                                                                (bif wordK (1 : Int) == List.getD (wordsF x) (0 : Nat) [] then ((1 : Int), (0 : Int), (0 : Int))
                                                                  else ((0 : Int), (0 : Int), (0 : Int))).2)
                                                            else
                                                              bif wordK (1 : Int) == List.getD (wordsF x) (0 : Nat) [] then ((1 : Int), (0 : Int), (0 : Int)) else ((0 : Int), (0 : Int), (0 : Int))).2)
                                                      else
                                                        bif wordK (2 : Int) == List.getD (wordsF x) (0 : Nat) [] then
                                                          ((2 : Int),
                                                            (bif wordK (1 : Int) == List.getD (wordsF x) (0 : Nat) [] then ((1 : Int), (0 : Int), (0 : Int)) else ((0 : Int), (0 : Int), (0 : Int))).2)
                                                        else bif wordK (1 : Int) == List.getD (wordsF x) (0 : Nat) [] then ((1 : Int), (0 : Int), (0 : Int)) else ((0 : Int), (0 : Int), (0 : Int))).1,
                                                  lowestF (nparseF (List.getD (wordsF x) (1 : Nat) [])).1, numberF (List.getD (wordsF x) (2 : Nat) []))
                                              else
                                                ((bif wordK (4 : Int) == List.getD (wordsF x) (0 : Nat) [] then
                                                      ((4 : Int),
                                                        (bif wordK (3 : Int) == List.getD (wordsF x) (0 : Nat) [] then
                                                            ((3 : Int),
                                                              (bif wordK (2 : Int) == List.getD (wordsF x) (0 : Nat) [] then
                                                                  ((2 : Int),
                                                                    (bif wordK (1 : Int) == List.getD (wordsF x) (0 : Nat) [] then ((1 : Int), (0 : Int), (0 : Int))
                                                                      else ((0 : Int), (0 : Int), (0 : Int))).2)
                                                                else
                                                                  bif wordK (1 : Int) == List.getD (wordsF x) (0 : Nat) [] then ((1 : Int), (0 : Int), (0 : Int))
                                                                  else ((0 : Int), (0 : Int), (0 : Int))).2)
                                                          else
                                                            bif wordK (2 : Int) == List.getD (wordsF x) (0 : Nat) [] then
                                                              ((2 : Int),
                                                                (bif wordK (1 : Int) == List.getD (wordsF x) (0 : Nat) [] then ((1 : Int), (0 : Int), (0 : Int))
                                                                  else ((0 : Int), (0 : Int), (0 : Int))).2)
                                                            else
                                                              bif wordK (1 : Int) == List.getD (wordsF x) (0 : Nat) [] then ((1 : Int), (0 : Int), (0 : Int)) else ((0 : Int), (0 : Int), (0 : Int))).2)
                                                    else
                                                      bif wordK (3 : Int) == List.getD (wordsF x) (0 : Nat) [] then
                                                        ((3 : Int),
                                                          (bif wordK (2 : Int) == List.getD (wordsF x) (0 : Nat) [] then
                                                              ((2 : Int),
                                                                (bif wordK (1 : Int) == List.getD (wordsF x) (0 : Nat) [] then ((1 : Int), (0 : Int), (0 : Int))
                                                                  else ((0 : Int), (0 : Int), (0 : Int))).2)
                                                            else
                                                              bif wordK (1 : Int) == List.getD (wordsF x) (0 : Nat) [] then ((1 : Int), (0 : Int), (0 : Int)) else ((0 : Int), (0 : Int), (0 : Int))).2)
                                                      else
                                                        bif wordK (2 : Int) == List.getD (wordsF x) (0 : Nat) [] then
                                                          ((2 : Int),
                                                            (bif wordK (1 : Int) == List.getD (wordsF x) (0 : Nat) [] then ((1 : Int), (0 : Int), (0 : Int)) else ((0 : Int), (0 : Int), (0 : Int))).2)
                                                        else bif wordK (1 : Int) == List.getD (wordsF x) (0 : Nat) [] then ((1 : Int), (0 : Int), (0 : Int)) else ((0 : Int), (0 : Int), (0 : Int))).1,
                                                  lowestF (nparseF (List.getD (wordsF x) (1 : Nat) [])).1,
                                                  (bif wordK (4 : Int) == List.getD (wordsF x) (0 : Nat) [] then
                                                        ((4 : Int),
                                                          (bif wordK (3 : Int) == List.getD (wordsF x) (0 : Nat) [] then
                                                              ((3 : Int),
                                                                (bif wordK (2 : Int) == List.getD (wordsF x) (0 : Nat) [] then
                                                                    ((2 : Int),
                                                                      (bif wordK (1 : Int) == List.getD (wordsF x) (0 : Nat) [] then ((1 : Int), (0 : Int), (0 : Int))
                                                                        else ((0 : Int), (0 : Int), (0 : Int))).2)
                                                                  else
                                                                    bif wordK (1 : Int) == List.getD (wordsF x) (0 : Nat) [] then ((1 : Int), (0 : Int), (0 : Int))
                                                                    else ((0 : Int), (0 : Int), (0 : Int))).2)
                                                            else
                                                              bif wordK (2 : Int) == List.getD (wordsF x) (0 : Nat) [] then
                                                                ((2 : Int),
                                                                  (bif wordK (1 : Int) == List.getD (wordsF x) (0 : Nat) [] then ((1 : Int), (0 : Int), (0 : Int))
                                                                    else ((0 : Int), (0 : Int), (0 : Int))).2)
                                                              else
                                                                bif wordK (1 : Int) == List.getD (wordsF x) (0 : Nat) [] then ((1 : Int), (0 : Int), (0 : Int)) else ((0 : Int), (0 : Int), (0 : Int))).2)
                                                      else
                                                        bif wordK (3 : Int) == List.getD (wordsF x) (0 : Nat) [] then
                                                          ((3 : Int),
                                                            (bif wordK (2 : Int) == List.getD (wordsF x) (0 : Nat) [] then
                                                                ((2 : Int),
                                                                  (bif wordK (1 : Int) == List.getD (wordsF x) (0 : Nat) [] then ((1 : Int), (0 : Int), (0 : Int))
                                                                    else ((0 : Int), (0 : Int), (0 : Int))).2)
                                                              else
                                                                bif wordK (1 : Int) == List.getD (wordsF x) (0 : Nat) [] then ((1 : Int), (0 : Int), (0 : Int)) else ((0 : Int), (0 : Int), (0 : Int))).2)
                                                        else
                                                          bif wordK (2 : Int) == List.getD (wordsF x) (0 : Nat) [] then
                                                            ((2 : Int),
                                                              (bif wordK (1 : Int) == List.getD (wordsF x) (0 : Nat) [] then ((1 : Int), (0 : Int), (0 : Int)) else ((0 : Int), (0 : Int), (0 : Int))).2)
                                                          else
                                                            bif wordK (1 : Int) == List.getD (wordsF x) (0 : Nat) [] then ((1 : Int), (0 : Int), (0 : Int))
                                                            else ((0 : Int), (0 : Int), (0 : Int))).2.2))).1 ==
                                          x)
                                    (Tree.leaf (((0 : Int), (0 : Int), (0 : Int)), (3 : Int)))
                                    (Tree.leaf
                                      (bif (↑(List.length (wordsF x)) : Int) == (3 : Int) then
                                          ((bif wordK (4 : Int) == List.getD (wordsF x) (0 : Nat) [] then
                                                ((4 : Int),
                                                  (bif wordK (3 : Int) == List.getD (wordsF x) (0 : Nat) [] then
                                                      ((3 : Int),
                                                        (bif wordK (2 : Int) == List.getD (wordsF x) (0 : Nat) [] then
                                                            ((2 : Int),
                                                              (bif wordK (1 : Int) == List.getD (wordsF x) (0 : Nat) [] then ((1 : Int), (0 : Int), (0 : Int)) else ((0 : Int), (0 : Int), (0 : Int))).2)
                                                          else bif wordK (1 : Int) == List.getD (wordsF x) (0 : Nat) [] then ((1 : Int), (0 : Int), (0 : Int)) else ((0 : Int), (0 : Int), (0 : Int))).2)
                                                    else
                                                      bif wordK (2 : Int) == List.getD (wordsF x) (0 : Nat) [] then
                                                        ((2 : Int),
                                                          (bif wordK (1 : Int) == List.getD (wordsF x) (0 : Nat) [] then ((1 : Int), (0 : Int), (0 : Int)) else ((0 : Int), (0 : Int), (0 : Int))).2)
                                                      else bif wordK (1 : Int) == List.getD (wordsF x) (0 : Nat) [] then ((1 : Int), (0 : Int), (0 : Int)) else ((0 : Int), (0 : Int), (0 : Int))).2)
                                              else
                                                bif wordK (3 : Int) == List.getD (wordsF x) (0 : Nat) [] then
                                                  ((3 : Int),
                                                    (bif wordK (2 : Int) == List.getD (wordsF x) (0 : Nat) [] then
                                                        ((2 : Int),
                                                          (bif wordK (1 : Int) == List.getD (wordsF x) (0 : Nat) [] then ((1 : Int), (0 : Int), (0 : Int)) else ((0 : Int), (0 : Int), (0 : Int))).2)
                                                      else bif wordK (1 : Int) == List.getD (wordsF x) (0 : Nat) [] then ((1 : Int), (0 : Int), (0 : Int)) else ((0 : Int), (0 : Int), (0 : Int))).2)
                                                else
                                                  bif wordK (2 : Int) == List.getD (wordsF x) (0 : Nat) [] then
                                                    ((2 : Int),
                                                      (bif wordK (1 : Int) == List.getD (wordsF x) (0 : Nat) [] then ((1 : Int), (0 : Int), (0 : Int)) else ((0 : Int), (0 : Int), (0 : Int))).2)
                                                  else bif wordK (1 : Int) == List.getD (wordsF x) (0 : Nat) [] then ((1 : Int), (0 : Int), (0 : Int)) else ((0 : Int), (0 : Int), (0 : Int))).1,
                                            lowestF (nparseF (List.getD (wordsF x) (1 : Nat) [])).1, numberF (List.getD (wordsF x) (2 : Nat) []))
                                        else
                                          ((bif wordK (4 : Int) == List.getD (wordsF x) (0 : Nat) [] then
                                                ((4 : Int),
                                                  (bif wordK (3 : Int) == List.getD (wordsF x) (0 : Nat) [] then
                                                      ((3 : Int),
                                                        (bif wordK (2 : Int) == List.getD (wordsF x) (0 : Nat) [] then
                                                            ((2 : Int),
                                                              (bif wordK (1 : Int) == List.getD (wordsF x) (0 : Nat) [] then ((1 : Int), (0 : Int), (0 : Int)) else ((0 : Int), (0 : Int), (0 : Int))).2)
                                                          else bif wordK (1 : Int) == List.getD (wordsF x) (0 : Nat) [] then ((1 : Int), (0 : Int), (0 : Int)) else ((0 : Int), (0 : Int), (0 : Int))).2)
                                                    else
                                                      bif wordK (2 : Int) == List.getD (wordsF x) (0 : Nat) [] then
                                                        ((2 : Int),
                                                          (bif wordK (1 : Int) == List.getD (wordsF x) (0 : Nat) [] then ((1 : Int), (0 : Int), (0 : Int)) else ((0 : Int), (0 : Int), (0 : Int))).2)
                                                      else bif wordK (1 : Int) == List.getD (wordsF x) (0 : Nat) [] then ((1 : Int), (0 : Int), (0 : Int)) else ((0 : Int), (0 : Int), (0 : Int))).2)
                                              else
                                                bif wordK (3 : Int) == List.getD (wordsF x) (0 : Nat) [] then
                                                  ((3 : Int),
                                                    (bif wordK (2 : Int) == List.getD (wordsF x) (0 : Nat) [] then
                                                        ((2 : Int),
                                                          (bif wordK (1 : Int) == List.getD (wordsF x) (0 : Nat) [] then ((1 : Int), (0 : Int), (0 : Int)) else ((0 : Int), (0 : Int), (0 : Int))).2)
                                                      else bif wordK (1 : Int) == List.getD (wordsF x) (0 : Nat) [] then ((1 : Int), (0 : Int), (0 : Int)) else ((0 : Int), (0 : Int), (0 : Int))).2)
                                                else
                                                  bif wordK (2 : Int) == List.getD (wordsF x) (0 : Nat) [] then
                                                    ((2 : Int),
                                                      (bif wordK (1 : Int) == List.getD (wordsF x) (0 : Nat) [] then ((1 : Int), (0 : Int), (0 : Int)) else ((0 : Int), (0 : Int), (0 : Int))).2)
                                                  else bif wordK (1 : Int) == List.getD (wordsF x) (0 : Nat) [] then ((1 : Int), (0 : Int), (0 : Int)) else ((0 : Int), (0 : Int), (0 : Int))).1,
                                            lowestF (nparseF (List.getD (wordsF x) (1 : Nat) [])).1,
                                            (bif wordK (4 : Int) == List.getD (wordsF x) (0 : Nat) [] then
                                                  ((4 : Int),
                                                    (bif wordK (3 : Int) == List.getD (wordsF x) (0 : Nat) [] then
                                                        ((3 : Int),
                                                          (bif wordK (2 : Int) == List.getD (wordsF x) (0 : Nat) [] then
                                                              ((2 : Int),
                                                                (bif wordK (1 : Int) == List.getD (wordsF x) (0 : Nat) [] then ((1 : Int), (0 : Int), (0 : Int))
                                                                  else ((0 : Int), (0 : Int), (0 : Int))).2)
                                                            else
                                                              bif wordK (1 : Int) == List.getD (wordsF x) (0 : Nat) [] then ((1 : Int), (0 : Int), (0 : Int)) else ((0 : Int), (0 : Int), (0 : Int))).2)
                                                      else
                                                        bif wordK (2 : Int) == List.getD (wordsF x) (0 : Nat) [] then
                                                          ((2 : Int),
                                                            (bif wordK (1 : Int) == List.getD (wordsF x) (0 : Nat) [] then ((1 : Int), (0 : Int), (0 : Int)) else ((0 : Int), (0 : Int), (0 : Int))).2)
                                                        else bif wordK (1 : Int) == List.getD (wordsF x) (0 : Nat) [] then ((1 : Int), (0 : Int), (0 : Int)) else ((0 : Int), (0 : Int), (0 : Int))).2)
                                                else
                                                  bif wordK (3 : Int) == List.getD (wordsF x) (0 : Nat) [] then
                                                    ((3 : Int),
                                                      (bif wordK (2 : Int) == List.getD (wordsF x) (0 : Nat) [] then
                                                          ((2 : Int),
                                                            (bif wordK (1 : Int) == List.getD (wordsF x) (0 : Nat) [] then ((1 : Int), (0 : Int), (0 : Int)) else ((0 : Int), (0 : Int), (0 : Int))).2)
                                                        else bif wordK (1 : Int) == List.getD (wordsF x) (0 : Nat) [] then ((1 : Int), (0 : Int), (0 : Int)) else ((0 : Int), (0 : Int), (0 : Int))).2)
                                                  else
                                                    bif wordK (2 : Int) == List.getD (wordsF x) (0 : Nat) [] then
                                                      ((2 : Int),
                                                        (bif wordK (1 : Int) == List.getD (wordsF x) (0 : Nat) [] then ((1 : Int), (0 : Int), (0 : Int)) else ((0 : Int), (0 : Int), (0 : Int))).2)
                                                    else bif wordK (1 : Int) == List.getD (wordsF x) (0 : Nat) [] then ((1 : Int), (0 : Int), (0 : Int)) else ((0 : Int), (0 : Int), (0 : Int))).2.2),
                                        (0 : Int)))))))))
                        (Tree.need ((0 : Int) ≤ (1 : Int) ∧ (1 : Int) < (↑(List.length (wordsF x)) : Int))
                          (Tree.br ((nparseF (List.getD (wordsF x) (1 : Nat) [])).2 != (0 : Int)) (Tree.leaf (((0 : Int), (0 : Int), (0 : Int)), (3 : Int)))
                            (Tree.need (((↑(List.length (wordsF x)) : Int) == (3 : Int)) = true → (0 : Int) ≤ (2 : Int) ∧ (2 : Int) < (↑(List.length (wordsF x)) : Int))
                              (Tree.br
                                (bif
                                    (cprintF
                                          (bif (↑(List.length (wordsF x)) : Int) == (3 : Int) then
                                            ((bif wordK (3 : Int) == List.getD (wordsF x) (0 : Nat) [] then
                                                  ((3 : Int),
                                                    (bif wordK (2 : Int) == List.getD (wordsF x) (0 : Nat) [] then
                                                        ((2 : Int),
                                                          (bif wordK (1 : Int) == List.getD (wordsF x) (0 : Nat) [] then ((1 : Int), (0 : Int), (0 : Int)) else ((0 : Int), (0 : Int), (0 : Int))).2)
                                                      else bif wordK (1 : Int) == List.getD (wordsF x) (0 : Nat) [] then ((1 : Int), (0 : Int), (0 : Int)) else ((0 : Int), (0 : Int), (0 : Int))).2)
                                                else
                                                  bif wordK (2 : Int) == List.getD (wordsF x) (0 : Nat) [] then
                                                    ((2 : Int),
                                                      (bif wordK (1 : Int) == List.getD (wordsF x) (0 : Nat) [] then ((1 : Int), (0 : Int), (0 : Int)) else ((0 : Int), (0 : Int), (0 : Int))).2)
                                                  else bif wordK (1 : Int) == List.getD (wordsF x) (0 : Nat) [] then ((1 : Int), (0 : Int), (0 : Int)) else ((0 : Int), (0 : Int), (0 : Int))).1,
                                              lowestF (nparseF (List.getD (wordsF x) (1 : Nat) [])).1, numberF (List.getD (wordsF x) (2 : Nat) []))
                                          else
                                            ((bif wordK (3 : Int) == List.getD (wordsF x) (0 : Nat) [] then
                                                  ((3 : Int),
                                                    (bif wordK (2 : Int) == List.getD (wordsF x) (0 : Nat) [] then
                                                        ((2 : Int),
                                                          (bif wordK (1 : Int) == List.getD (wordsF x) (0 : Nat) [] then ((1 : Int), (0 : Int), (0 : Int)) else ((0 : Int), (0 : Int), (0 : Int))).2)
                                                      else bif wordK (1 : Int) == List.getD (wordsF x) (0 : Nat) [] then ((1 : Int), (0 : Int), (0 : Int)) else ((0 : Int), (0 : Int), (0 : Int))).2)
                                                else
                                                  bif wordK (2 : Int) == List.getD (wordsF x) (0 : Nat) [] then
                                                    ((2 : Int),
                                                      (bif wordK (1 : Int) == List.getD (wordsF x) (0 : Nat) [] then ((1 : Int), (0 : Int), (0 : Int)) else ((0 : Int), (0 : Int), (0 : Int))).2)
                                                  else bif wordK (1 : Int) == List.getD (wordsF x) (0 : Nat) [] then ((1 : Int), (0 : Int), (0 : Int)) else ((0 : Int), (0 : Int), (0 : Int))).1,
                                              lowestF (nparseF (List.getD (wordsF x) (1 : Nat) [])).1,
                                              (bif wordK (3 : Int) == List.getD (wordsF x) (0 : Nat) [] then
                                                    ((3 : Int),
                                                      (bif wordK (2 : Int) == List.getD (wordsF x) (0 : Nat) [] then
                                                          ((2 : Int),
                                                            (bif wordK (1 : Int) == List.getD (wordsF x) (0 : Nat) [] then ((1 : Int), (0 : Int), (0 : Int)) else ((0 : Int), (0 : Int), (0 : Int))).2)
                                                        else bif wordK (1 : Int) == List.getD (wordsF x) (0 : Nat) [] then ((1 : Int), (0 : Int), (0 : Int)) else ((0 : Int), (0 : Int), (0 : Int))).2)
                                                  else
                                                    bif wordK (2 : Int) == List.getD (wordsF x) (0 : Nat) [] then
                                                      ((2 : Int),
                                                        (bif wordK (1 : Int) == List.getD (wordsF x) (0 : Nat) [] then ((1 : Int), (0 : Int), (0 : Int)) else ((0 : Int), (0 : Int), (0 : Int))).2)
                                                    else
                                                      bif wordK (1 : Int) == List.getD (wordsF x) (0 : Nat) [] then ((1 : Int), (0 : Int), (0 : Int)) else ((0 : Int), (0 : Int), (0 : Int))).2.2))).2 !=
                                      (0 : Int) then
                                  true
                                else
                                  !(cprintF
                                          (bif (↑(List.length (wordsF x)) : Int) == (3 : Int) then
                                            ((bif wordK (3 : Int) == List.getD (wordsF x) (0 : Nat) [] then
                                                  ((3 : Int),
                                                    (bif wordK (2 : Int) == List.getD (wordsF x) (0 : Nat) [] then
                                                        ((2 : Int),
                                                          (bif wordK (1 : Int) == List.getD (wordsF x) (0 : Nat) [] then ((1 : Int), (0 : Int), (0 : Int)) else ((0 : Int), (0 : Int), (0 : Int))).2)
                                                      else bif wordK (1 : Int) == List.getD (wordsF x) (0 : Nat) [] then ((1 : Int), (0 : Int), (0 : Int)) else ((0 : Int), (0 : Int), (0 : Int))).2)
                                                else
                                                  bif wordK (2 : Int) == List.getD (wordsF x) (0 : Nat) [] then
                                                    ((2 : Int),
                                                      (bif wordK (1 : Int) == List.getD (wordsF x) (0 : Nat) [] then ((1 : Int), (0 : Int), (0 : Int)) else ((0 : Int), (0 : Int), (0 : Int))).2)
                                                  else bif wordK (1 : Int) == List.getD (wordsF x) (0 : Nat) [] then ((1 : Int), (0 : Int), (0 : Int)) else ((0 : Int), (0 : Int), (0 : Int))).1,
                                              lowestF (nparseF (List.getD (wordsF x) (1 : Nat) [])).1, numberF (List.getD (wordsF x) (2 : Nat) []))
                                          else
                                            ((bif wordK (3 : Int) == List.getD (wordsF x) (0 : Nat) [] then
                                                  ((3 : Int),
                                                    (bif wordK (2 : Int) == List.getD (wordsF x) (0 : Nat) [] then
                                                        ((2 : Int),
                                                          (bif wordK (1 : Int) == List.getD (wordsF x) (0 : Nat) [] then ((1 : Int), (0 : Int), (0 : Int)) else ((0 : Int), (0 : Int), (0 : Int))).2)
                                                      else bif wordK (1 : Int) == List.getD (wordsF x) (0 : Nat) [] then ((1 : Int), (0 : Int), (0 : Int)) else ((0 : Int), (0 : Int), (0 : Int))).2)
                                                else
                                                  bif wordK (2 : Int) == List.getD (wordsF x) (0 : Nat) [] then
                                                    ((2 : Int),
                                                      (bif wordK (1 : Int) == List.getD (wordsF x) (0 : Nat) [] then ((1 : Int), (0 : Int), (0 : Int)) else ((0 : Int), (0 : Int), (0 : Int))).2)
                                                  else bif wordK (1 : Int) == List.getD (wordsF x) (0 : Nat) [] then ((1 : Int), (0 : Int), (0 : Int)) else ((0 : Int), (0 : Int), (0 : Int))).1,
                                              lowestF (nparseF (List.getD (wordsF x) (1 : Nat) [])).1,
                                              (bif wordK (3 : Int) == List.getD (wordsF x) (0 : Nat) [] then
                                                    ((3 : Int),
                                                      (bif wordK (2 : Int) == List.getD (wordsF x) (0 : Nat) [] then
                                                          ((2 : Int),
                                                            (bif wordK (1 : Int) == List.getD (wordsF x) (0 : Nat) [] then ((1 : Int), (0 : Int), (0 : Int)) else ((0 : Int), (0 : Int), (0 : Int))).2)
                                                        else bif wordK (1 : Int) == List.getD (wordsF x) (0 : Nat) [] then ((1 : Int), (0 : Int), (0 : Int)) else ((0 : Int), (0 : Int), (0 : Int))).2)
                                                  else
                                                    bif wordK (2 : Int) == List.getD (wordsF x) (0 : Nat) [] then
                                                      ((2 : Int),
                                                        (bif wordK (1 : Int) == List.getD (wordsF x) (0 : Nat) [] then ((1 : Int), (0 : Int), (0 : Int)) else ((0 : Int), (0 : Int), (0 : Int))).2)
                                                    else
                                                      bif wordK (1 : Int) == List.getD (wordsF x) (0 : Nat) [] then ((1 : Int), (0 : Int), (0 : Int)) else ((0 : Int), (0 : Int), (0 : Int))).2.2))).1 ==
                                      x)
                                (Tree.leaf (((0 : Int), (0 : Int), (0 : Int)), (3 : Int)))
                                (Tree.leaf
                                  (bif (↑(List.length (wordsF x)) : Int) == (3 : Int) then
                                      ((bif wordK (3 : Int) == List.getD (wordsF x) (0 : Nat) [] then
                                            ((3 : Int),
                                              (bif wordK (2 : Int) == List.getD (wordsF x) (0 : Nat) [] then
                                                  ((2 : Int), (bif wordK (1 : Int) == List.getD (wordsF x) (0 : Nat) [] then ((1 : Int), (0 : Int), (0 : Int)) else ((0 : Int), (0 : Int), (0 : Int))).2)
                                                else bif wordK (1 : Int) == List.getD (wordsF x) (0 : Nat) [] then ((1 : Int), (0 : Int), (0 : Int)) else ((0 : Int), (0 : Int), (0 : Int))).2)
                                          else
                                            bif wordK (2 : Int) == List.getD (wordsF x) (0 : Nat) [] then
                                              ((2 : Int), (bif wordK (1 : Int) == List.getD (wordsF x) (0 : Nat) [] then ((1 : Int), (0 : Int), (0 : Int)) else ((0 : Int), (0 : Int), (0 : Int))).2)
                                            else bif wordK (1 : Int) == List.getD (wordsF x) (0 : Nat) [] then ((1 : Int), (0 : Int), (0 : Int)) else ((0 : Int), (0 : Int), (0 : Int))).1,
                                        lowestF (nparseF (List.getD (wordsF x) (1 : Nat) [])).1, numberF (List.getD (wordsF x) (2 : Nat) []))
                                    else
                                      ((bif wordK (3 : Int) == List.getD (wordsF x) (0 : Nat) [] then
                                            ((3 : Int),
                                              (bif wordK (2 : Int) == List.getD (wordsF x) (0 : Nat) [] then
                                                  ((2 : Int), (bif wordK (1 : Int) == List.getD (wordsF x) (0 : Nat) [] then ((1 : Int), (0 : Int), (0 : Int)) else ((0 : Int), (0 : Int), (0 : Int))).2)
                                                else bif wordK (1 : Int) == List.getD (wordsF x) (0 : Nat) [] then ((1 : Int), (0 : Int), (0 : Int)) else ((0 : Int), (0 : Int), (0 : Int))).2)
                                          else
                                            bif wordK (2 : Int) == List.getD (wordsF x) (0 : Nat) [] then
                                              ((2 : Int), (bif wordK (1 : Int) == List.getD (wordsF x) (0 : Nat) [] then ((1 : Int), (0 : Int), (0 : Int)) else ((0 : Int), (0 : Int), (0 : Int))).2)
                                            else bif wordK (1 : Int) == List.getD (wordsF x) (0 : Nat) [] then ((1 : Int), (0 : Int), (0 : Int)) else ((0 : Int), (0 : Int), (0 : Int))).1,
                                        lowestF (nparseF (List.getD (wordsF x) (1 : Nat) [])).1,
                                        (bif wordK (3 : Int) == List.getD (wordsF x) (0 : Nat) [] then
                                              ((3 : Int),
                                                (bif wordK (2 : Int) == List.getD (wordsF x) (0 : Nat) [] then
                                                    ((2 : Int),
                                                      (bif wordK (1 : Int) == List.getD (wordsF x) (0 : Nat) [] then ((1 : Int), (0 : Int), (0 : Int)) else ((0 : Int), (0 : Int), (0 : Int))).2)
                                                  else bif wordK (1 : Int) == List.getD (wordsF x) (0 : Nat) [] then ((1 : Int), (0 : Int), (0 : Int)) else ((0 : Int), (0 : Int), (0 : Int))).2)
                                            else
                                              bif wordK (2 : Int) == List.getD (wordsF x) (0 : Nat) [] then
                                                ((2 : Int), (bif wordK (1 : Int) == List.getD (wordsF x) (0 : Nat) [] then ((1 : Int), (0 : Int), (0 : Int)) else ((0 : Int), (0 : Int), (0 : Int))).2)
                                              else bif wordK (1 : Int) == List.getD (wordsF x) (0 : Nat) [] then ((1 : Int), (0 : Int), (0 : Int)) else ((0 : Int), (0 : Int), (0 : Int))).2.2),
                                    (0 : Int)))))))))
                    (Tree.need ((0 : Int) ≤ (1 : Int) ∧ (1 : Int) < (↑(List.length (wordsF x)) : Int))
                      (Tree.br ((nparseF (List.getD (wordsF x) (1 : Nat) [])).2 != (0 : Int)) (Tree.leaf (((0 : Int), (0 : Int), (0 : Int)), (3 : Int)))
                        (Tree.need (((↑(List.length (wordsF x)) : Int) == (3 : Int)) = true → (0 : Int) ≤ (2 : Int) ∧ (2 : Int) < (↑(List.length (wordsF x)) : Int))
                          (Tree.br
                            (bif
                                (cprintF
                                      (bif (↑(List.length (wordsF x)) : Int) == (3 : Int) then
                                        ((bif wordK (2 : Int) == List.getD (wordsF x) (0 : Nat) [] then
                                              ((2 : Int), (bif wordK (1 : Int) == List.getD (wordsF x) (0 : Nat) [] then ((1 : Int), (0 : Int), (0 : Int)) else ((0 : Int), (0 : Int), (0 : Int))).2)
                                            else bif wordK (1 : Int) == List.getD (wordsF x) (0 : Nat) [] then ((1 : Int), (0 : Int), (0 : Int)) else ((0 : Int), (0 : Int), (0 : Int))).1,
                                          lowestF (nparseF (List.getD (wordsF x) (1 : Nat) [])).1, numberF (List.getD (wordsF x) (2 : Nat) []))
                                      else
                                        ((bif wordK (2 : Int) == List.getD (wordsF x) (0 : Nat) [] then
                                              ((2 : Int), (bif wordK (1 : Int) == List.getD (wordsF x) (0 : Nat) [] then ((1 : Int), (0 : Int), (0 : Int)) else ((0 : Int), (0 : Int), (0 : Int))).2)
                                            else bif wordK (1 : Int) == List.getD (wordsF x) (0 : Nat) [] then ((1 : Int), (0 : Int), (0 : Int)) else ((0 : Int), (0 : Int), (0 : Int))).1,
                                          lowestF (nparseF (List.getD (wordsF x) (1 : Nat) [])).1,
                                          (bif wordK (2 : Int) == List.getD (wordsF x) (0 : Nat) [] then
                                                ((2 : Int), (bif wordK (1 : Int) == List.getD (wordsF x) (0 : Nat) [] then ((1 : Int), (0 : Int), (0 : Int)) else ((0 : Int), (0 : Int), (0 : Int))).2)
                                              else bif wordK (1 : Int) == List.getD (wordsF x) (0 : Nat) [] then ((1 : Int), (0 : Int), (0 : Int)) else ((0 : Int), (0 : Int), (0 : Int))).2.2))).2 !=
                                  (0 : Int) then
                              true
                            else
                              !(cprintF
                                      (bif (↑(List.length (wordsF x)) : Int) == (3 : Int) then
                                        ((bif wordK (2 : Int) == List.getD (wordsF x) (0 : Nat) [] then
                                              ((2 : Int), (bif wordK (1 : Int) == List.getD (wordsF x) (0 : Nat) [] then ((1 : Int), (0 : Int), (0 : Int)) else ((0 : Int), (0 : Int), (0 : Int))).2)
                                            else bif wordK (1 : Int) == List.getD (wordsF x) (0 : Nat) [] then ((1 : Int), (0 : Int), (0 : Int)) else ((0 : Int), (0 : Int), (0 : Int))).1,
                                          lowestF (nparseF (List.getD (wordsF x) (1 : Nat) [])).1, numberF (List.getD (wordsF x) (2 : Nat) []))
                                      else
                                        ((bif wordK (2 : Int) == List.getD (wordsF x) (0 : Nat) [] then
                                              ((2 : Int), (bif wordK (1 : Int) == List.getD (wordsF x) (0 : Nat) [] then ((1 : Int), (0 : Int), (0 : Int)) else ((0 : Int), (0 : Int), (0 : Int))).2)
                                            else bif wordK (1 : Int) == List.getD (wordsF x) (0 : Nat) [] then ((1 : Int), (0 : Int), (0 : Int)) else ((0 : Int), (0 : Int), (0 : Int))).1,
                                          lowestF (nparseF (List.getD (wordsF x) (1 : Nat) [])).1,
                                          (bif wordK (2 : Int) == List.getD (wordsF x) (0 : Nat) [] then
                                                ((2 : Int), (bif wordK (1 : Int) == List.getD (wordsF x) (0 : Nat) [] then ((1 : Int), (0 : Int), (0 : Int)) else ((0 : Int), (0 : Int), (0 : Int))).2)
                                              else bif wordK (1 : Int) == List.getD (wordsF x) (0 : Nat) [] then ((1 : Int), (0 : Int), (0 : Int)) else ((0 : Int), (0 : Int), (0 : Int))).2.2))).1 ==
                                  x)
                            (Tree.leaf (((0 : Int), (0 : Int), (0 : Int)), (3 : Int)))
                            (Tree.leaf
                              (bif (↑(List.length (wordsF x)) : Int) == (3 : Int) then
                                  ((bif wordK (2 : Int) == List.getD (wordsF x) (0 : Nat) [] then
                                        ((2 : Int), (bif wordK (1 : Int) == List.getD (wordsF x) (0 : Nat) [] then ((1 : Int), (0 : Int), (0 : Int)) else ((0 : Int), (0 : Int), (0 : Int))).2)
                                      else bif wordK (1 : Int) == List.getD (wordsF x) (0 : Nat) [] then ((1 : Int), (0 : Int), (0 : Int)) else ((0 : Int), (0 : Int), (0 : Int))).1,
                                    lowestF (nparseF (List.getD (wordsF x) (1 : Nat) [])).1, numberF (List.getD (wordsF x) (2 : Nat) []))
                                else
                                  ((bif wordK (2 : Int) == List.getD (wordsF x) (0 : Nat) [] then
                                        ((2 : Int), (bif wordK (1 : Int) == List.getD (wordsF x) (0 : Nat) [] then ((1 : Int), (0 : Int), (0 : Int)) else ((0 : Int), (0 : Int), (0 : Int))).2)
                                      else bif wordK (1 : Int) == List.getD (wordsF x) (0 : Nat) [] then ((1 : Int), (0 : Int), (0 : Int)) else ((0 : Int), (0 : Int), (0 : Int))).1,
                                    lowestF (nparseF (List.getD (wordsF x) (1 : Nat) [])).1,
                                    (bif wordK (2 : Int) == List.getD (wordsF x) (0 : Nat) [] then
                                          ((2 : Int), (bif wordK (1 : Int) == List.getD (wordsF x) (0 : Nat) [] then ((1 : Int), (0 : Int), (0 : Int)) else ((0 : Int), (0 : Int), (0 : Int))).2)
                                        else bif wordK (1 : Int) == List.getD (wordsF x) (0 : Nat) [] then ((1 : Int), (0 : Int), (0 : Int)) else ((0 : Int), (0 : Int), (0 : Int))).2.2),
                                (0 : Int)))))))))
                (Tree.need ((0 : Int) ≤ (1 : Int) ∧ (1 : Int) < (↑(List.length (wordsF x)) : Int))
                  (Tree.br ((nparseF (List.getD (wordsF x) (1 : Nat) [])).2 != (0 : Int)) (Tree.leaf (((0 : Int), (0 : Int), (0 : Int)), (3 : Int)))
                    (Tree.need (((↑(List.length (wordsF x)) : Int) == (3 : Int)) = true → (0 : Int) ≤ (2 : Int) ∧ (2 : Int) < (↑(List.length (wordsF x)) : Int))
                      (Tree.br
                        (bif
                            (cprintF
                                  (bif (↑(List.length (wordsF x)) : Int) == (3 : Int) then
                                    ((bif wordK (1 : Int) == List.getD (wordsF x) (0 : Nat) [] then ((1 : Int), (0 : Int), (0 : Int)) else ((0 : Int), (0 : Int), (0 : Int))).1,
                                      lowestF (nparseF (List.getD (wordsF x) (1 : Nat) [])).1, numberF (List.getD (wordsF x) (2 : Nat) []))
                                  else
                                    ((bif wordK (1 : Int) == List.getD (wordsF x) (0 : Nat) [] then ((1 : Int), (0 : Int), (0 : Int)) else ((0 : Int), (0 : Int), (0 : Int))).1,
                                      lowestF (nparseF (List.getD (wordsF x) (1 : Nat) [])).1,
                                      (bif wordK (1 : Int) == List.getD (wordsF x) (0 : Nat) [] then ((1 : Int), (0 : Int), (0 : Int)) else ((0 : Int), (0 : Int), (0 : Int))).2.2))).2 !=
                              (0 : Int) then
                          true
                        else
                          !(cprintF
                                  (bif (↑(List.length (wordsF x)) : Int) == (3 : Int) then
                                    ((bif wordK (1 : Int) == List.getD (wordsF x) (0 : Nat) [] then ((1 : Int), (0 : Int), (0 : Int)) else ((0 : Int), (0 : Int), (0 : Int))).1,
                                      lowestF (nparseF (List.getD (wordsF x) (1 : Nat) [])).1, numberF (List.getD (wordsF x) (2 : Nat) []))
                                  else
                                    ((bif wordK (1 : Int) == List.getD (wordsF x) (0 : Nat) [] then ((1 : Int), (0 : Int), (0 : Int)) else ((0 : Int), (0 : Int), (0 : Int))).1,
                                      lowestF (nparseF (List.getD (wordsF x) (1 : Nat) [])).1,
                                      (bif wordK (1 : Int) == List.getD (wordsF x) (0 : Nat) [] then ((1 : Int), (0 : Int), (0 : Int)) else ((0 : Int), (0 : Int), (0 : Int))).2.2))).1 ==
                              x)
                        (Tree.leaf (((0 : Int), (0 : Int), (0 : Int)), (3 : Int)))
                        (Tree.leaf
                          (bif (↑(List.length (wordsF x)) : Int) == (3 : Int) then
                              ((bif wordK (1 : Int) == List.getD (wordsF x) (0 : Nat) [] then ((1 : Int), (0 : Int), (0 : Int)) else ((0 : Int), (0 : Int), (0 : Int))).1,
                                lowestF (nparseF (List.getD (wordsF x) (1 : Nat) [])).1, numberF (List.getD (wordsF x) (2 : Nat) []))
                            else
                              ((bif wordK (1 : Int) == List.getD (wordsF x) (0 : Nat) [] then ((1 : Int), (0 : Int), (0 : Int)) else ((0 : Int), (0 : Int), (0 : Int))).1,
                                lowestF (nparseF (List.getD (wordsF x) (1 : Nat) [])).1,
                                (bif wordK (1 : Int) == List.getD (wordsF x) (0 : Nat) [] then ((1 : Int), (0 : Int), (0 : Int)) else ((0 : Int), (0 : Int), (0 : Int))).2.2),
                            (0 : Int)))))))))
            (Tree.need ((0 : Int) ≤ (1 : Int) ∧ (1 : Int) < (↑(List.length (wordsF x)) : Int))
              (Tree.br ((nparseF (List.getD (wordsF x) (1 : Nat) [])).2 != (0 : Int)) (Tree.leaf (((0 : Int), (0 : Int), (0 : Int)), (3 : Int)))
                (Tree.need (((↑(List.length (wordsF x)) : Int) == (3 : Int)) = true → (0 : Int) ≤ (2 : Int) ∧ (2 : Int) < (↑(List.length (wordsF x)) : Int))
                  (Tree.br
                    (bif
                        (cprintF
                              (bif (↑(List.length (wordsF x)) : Int) == (3 : Int) then ((0 : Int), lowestF (nparseF (List.getD (wordsF x) (1 : Nat) [])).1, numberF (List.getD (wordsF x) (2 : Nat) []))
                              else ((0 : Int), lowestF (nparseF (List.getD (wordsF x) (1 : Nat) [])).1, (0 : Int)))).2 !=
                          (0 : Int) then
                      true
                    else
                      !(cprintF
                              (bif (↑(List.length (wordsF x)) : Int) == (3 : Int) then ((0 : Int), lowestF (nparseF (List.getD (wordsF x) (1 : Nat) [])).1, numberF (List.getD (wordsF x) (2 : Nat) []))
                              else ((0 : Int), lowestF (nparseF (List.getD (wordsF x) (1 : Nat) [])).1, (0 : Int)))).1 ==
                          x)
                    (Tree.leaf (((0 : Int), (0 : Int), (0 : Int)), (3 : Int)))
                    (Tree.leaf
                      (bif (↑(List.length (wordsF x)) : Int) == (3 : Int) then ((0 : Int), lowestF (nparseF (List.getD (wordsF x) (1 : Nat) [])).1, numberF (List.getD (wordsF x) (2 : Nat) []))
                        else ((0 : Int), lowestF (nparseF (List.getD (wordsF x) (1 : Nat) [])).1, (0 : Int)),
                        (0 : Int))))))))))) := by kernel_rfl
theorem cparse_ok : CtrOK Tryd.prog 58 cparseC2 :=
  fun_ok (G := cparseG) (Λ := cparseL) tysOK cparseG_ok mixed (by kernel_rfl) (by kernel_rfl) (by kernel_rfl) (by kernel_rfl) (lp_cons (rounds_ok0 rfl rfl rfl (by kernel_rfl)) lp_nil) fun (x : List UInt8) hw hp => by
    show (evFn (mkC tys cparseG cparseL) (fnOf Tryd.prog 58) (resL [.str] x) cparseC2.res).holds (fun y => y = cparseF x)
    rw [congrFun cparse_tree x]
    simp only [Tree.holds]
    refine ⟨fun h => (cparse_long (of_decide_eq_true h)).symm, fun h => ?_⟩
    have hl : ¬ (x.length : Int) > 40 := of_decide_eq_false h
    refine ⟨by omega, fun h2 => ?_, fun h2 => ?_⟩
    · unfold cparseF; rw [h, h2]; rfl
    · have e : cparseF x = (bif (nparseF ((wordsF x).getD 1 [])).2 != (0 : Int) then ((0, 0, 0), 3) else
          bif (bif (cprintF (cparseC (wordsF x))).2 != (0 : Int) then true else !((cprintF (cparseC (wordsF x))).1 == x)) then ((0, 0, 0), 3) else (cparseC (wordsF x), 0)) := by
        unfold cparseF; rw [h, h2]; rfl
      have hb : 2 ≤ (wordsF x).length ∧ (wordsF x).length ≤ 3 := by
        by_cases h3 : ((wordsF x).length : Int) < 2
        · rw [decide_eq_true h3] at h2; cases h2
        · rw [decide_eq_false h3] at h2
          have : ¬ ((wordsF x).length : Int) > 3 := of_decide_eq_false h2
          omega
      rw [e]
      unfold cparseC kindF
      have h3 : ((wordsF x).length : Int) == (3 : Int) → (0 : Int) ≤ 2 ∧ (2 : Int) < (wordsF x).length := fun h => by
        have : ((wordsF x).length : Int) = 3 := by simpa using h
        omega
      generalize (wordsF x).getD 0 [] = w0
      generalize (wordsF x).getD 1 [] = w1
      generalize (wordsF x).getD 2 [] = w2
      have h0 : (0 : Int) ≤ 0 ∧ (0 : Int) < (wordsF x).length := ⟨by omega, by omega⟩
      have h1 : (0 : Int) ≤ 1 ∧ (1 : Int) < (wordsF x).length := ⟨by omega, by omega⟩
      generalize ((wordsF x).length : Int) = n at h0 h1 h3 ⊢
      refine ⟨fun _ => ⟨h0, fun _ => ⟨h0, fun _ => ⟨h0, fun _ => ⟨h0, nofun, fun _ => ⟨h1, fun h5 => ?_, fun h5 => ⟨h3, fun h6 => ?_, fun h6 => ?_⟩⟩⟩, nofun⟩, nofun⟩, nofun⟩, nofun⟩
      · rw [h5]; rfl
      · rw [h5]
        simp only [cond_false]
        revert h6
        cases n == (3 : Int) <;> cases wordK 4 == w0 <;> cases wordK 3 == w0 <;> cases wordK 2 == w0 <;> cases wordK 1 == w0 <;> (simp only [cond_true, cond_false]; intro h6; rw [h6]; rfl)
      · rw [h5]
        simp only [cond_false]
        revert h6
        cases n == (3 : Int) <;> cases wordK 4 == w0 <;> cases wordK 3 == w0 <;> cases wordK 2 == w0 <;> cases wordK 1 == w0 <;> (simp only [cond_true, cond_false]; intro h6; rw [h6]; rfl)
end Go.Ev.D
