/- What a row reads, told in types. -/
import Derived.Deep.Slices
import Derived.ChangeSame
import Derived.Carry
import Derived.RowKit3
import Derived.OpenShut
import Derived.ChangeCalls
import Derived.Shelf.Strings.OnBuilder
import Derived.Test.YtfahhljpjdoagaaGreatProg
import Derived.Shelf.Strings.Builder1
import Derived.Test.YtfahhljpjdoagaaGreatTextLinkMeets7

set_option linter.unusedVariables false
set_option linter.unusedSimpArgs false
namespace Go.Ev
open Go.ChangeShapes Go.RowKit

mutual
def bulk {H : Type} : DataW H → Nat
  | .lit (.string bytes) => bytes.length + 1
  | .lit _ => 1
  | .nil => 1
  | .ptr d => bulk d + 1
  | .slice elems spare => bulkAll elems + bulkAll spare + 1
  | .agg parts => bulkAll parts + 1
  | .iface _ d => bulk d + 1
  | .map entries => bulkEntries entries + 1
  | .held _ => 1
def bulkAll {H : Type} : List (DataW H) → Nat
  | [] => 0
  | d :: r => bulk d + bulkAll r
def bulkEntries {H : Type} : List (Lit × DataW H) → Nat
  | [] => 0
  | x :: r => bulkEntry x + bulkEntries r
def bulkEntry {H : Type} : Lit × DataW H → Nat
  | (.string bytes, d) => bytes.length + bulk d + 1
  | (_, d) => bulk d + 1
end

theorem bulk_mem {H : Type} {d : DataW H} : ∀ {l : List (DataW H)}, d ∈ l → bulk d ≤ bulkAll l
  | [], h => by simp at h
  | x :: l, h => by
    simp only [bulkAll]
    rcases List.mem_cons.1 h with rfl | h
    · omega
    · have := bulk_mem h; omega

theorem bulk_pos {H : Type} : ∀ (d : DataW H), 1 ≤ bulk d := by
  intro d
  cases d with
  | lit l => cases l <;> simp [bulk]
  | _ => simp [bulk]

theorem bulk_len {H : Type} : ∀ (l : List (DataW H)), l.length ≤ bulkAll l
  | [] => by simp [bulkAll]
  | x :: l => by
    have := bulk_len l
    have := bulk_pos x
    simp only [bulkAll, List.length_cons]
    omega

abbrev allS (w : World) : Stab := fun b _ => b < w.heap.size

section
variable {P : Program} {τ : Tys} {w : World} {H : Type} {enc : TypeId × Value → H}

theorem cellsOf_eq (TOK : TysOK P τ) {t : TypeId} {i : TInfo} (hi : τ t = some i) : P.cellsOf t = ncell i.g := by
  obtain ⟨ti, h1, h2, _⟩ := (TOK t i hi).info
  simp [Program.cellsOf, h1, h2]
theorem chain_enc {S : Stab} : ∀ {n : Nat} {g : GTy} {cs : List Value}, Chain n g → cs.length = ncell g → (∀ k, k < n → ∃ h x, pathTy g (fieldPath n k) = some h ∧ Enc w S h x ((cs.drop (offs g (fieldPath n k))).take (ncell h)) ∧ small h x) → ∃ x, Enc w S g x cs ∧ small g x
  | 1, .prod a .unit, cs, _, hl, h => by
    obtain ⟨h', x, h1, h2, h3⟩ := h 0 (by omega)
    simp only [fieldPath, pathTy, Option.some.injEq] at h1
    subst h1
    simp only [fieldPath, offs, List.drop_zero] at h2
    simp only [ncell, Nat.add_zero] at hl
    rw [List.take_of_length_le (by omega)] at h2
    exact ⟨(x, ()), ⟨cs, [], by simp, h2, rfl⟩, h3, trivial⟩
  | 2, .prod a b, cs, _, hl, h => by
    obtain ⟨h0, x, p1, p2, p3⟩ := h 0 (by omega)
    obtain ⟨h1, y, q1, q2, q3⟩ := h 1 (by omega)
    simp only [fieldPath, pathTy, Option.some.injEq] at p1 q1
    subst p1
    subst q1
    simp only [fieldPath, offs, List.drop_zero, Nat.add_zero] at p2 q2
    simp only [ncell] at hl
    rw [List.take_of_length_le (by simp; omega)] at q2
    exact ⟨(x, y), ⟨_, _, (List.take_append_drop (ncell a) cs).symm, p2, q2⟩, p3, q3⟩
  | n + 3, .prod a b, cs, hc, hl, h => by
    obtain ⟨h0, x, p1, p2, p3⟩ := h 0 (by omega)
    simp only [fieldPath, pathTy, Option.some.injEq] at p1
    subst p1
    simp only [fieldPath, offs, List.drop_zero] at p2
    simp only [ncell] at hl
    obtain ⟨y, hy, hy'⟩ := chain_enc (n := n + 2) (g := b) (cs := cs.drop (ncell a)) hc (by simp; omega) (fun k hk => by
      obtain ⟨h', z, r1, r2, r3⟩ := h (k + 1) (by omega)
      refine ⟨h', z, ?_, ?_, r3⟩
      · simpa only [fieldPath, pathTy] using r1
      · simp only [fieldPath, offs] at r2
        rw [List.drop_drop]
        exact r2)
    exact ⟨(x, y), ⟨_, _, (List.take_append_drop (ncell a) cs).symm, p2, hy⟩, p3, hy'⟩
theorem mapM_get {α β : Type} {f : α → Option β} : ∀ {l : List α} {r : List β}, l.mapM f = some r → r.length = l.length ∧ ∀ (k : Nat) (a : α), l[k]? = some a → ∃ b, r[k]? = some b ∧ f a = some b
  | [], r, h => by
    simp at h
    subst h
    simp
  | a :: l, r, h => by
    rw [List.mapM_cons] at h
    cases ha : f a with
    | none => simp [ha] at h
    | some b =>
      cases hl : l.mapM f with
      | none => simp [ha, hl] at h
      | some r' =>
        simp [ha, hl] at h
        subst h
        obtain ⟨h1, h2⟩ := mapM_get hl
        refine ⟨by simp [h1], fun k x hk => ?_⟩
        cases k with
        | zero => simp at hk; subst hk; exact ⟨b, by simp, ha⟩
        | succ k => simpa using h2 k x (by simpa using hk)
theorem row_enc {S : Stab} {g : GTy} : ∀ (n : Nat) {cs : List Value}, cs.length = n * ncell g → (∀ k, k < n → ∃ x, Enc w S g x ((cs.drop (k * ncell g)).take (ncell g)) ∧ small g x) → ∃ xs : List (den g), xs.length = n ∧ encL (Enc w S g) xs cs ∧ ∀ x, x ∈ xs → small g x
  | 0, cs, hl, _ => ⟨[], rfl, by simp at hl; exact hl, by simp⟩
  | n + 1, cs, hl, h => by
    obtain ⟨x, hx, hsx⟩ := h 0 (by omega)
    simp only [Nat.zero_mul, List.drop_zero] at hx
    rw [Nat.add_mul, Nat.one_mul] at hl
    obtain ⟨xs, h1, h2, h3⟩ := row_enc (S := S) (g := g) n (cs := cs.drop (ncell g)) (by rw [List.length_drop, hl]; omega) (fun k hk => by
      obtain ⟨y, hy, hsy⟩ := h (k + 1) (by omega)
      refine ⟨y, ?_, hsy⟩
      rw [List.drop_drop]
      rw [Nat.add_mul, Nat.one_mul, Nat.add_comm] at hy
      exact hy)
    exact ⟨x :: xs, by simp [h1], ⟨_, _, (List.take_append_drop (ncell g) cs).symm, hx, h2⟩, fun z hz => by
      rcases List.mem_cons.1 hz with rfl | hz
      · exact hsx
      · exact h3 z hz⟩
theorem cells_get {base : Nat} {a : Addr} {n : Nat} {cs : List Value} (h : w.cells? base a n = some cs) : cs.length = n ∧ ∀ j, j < n → ∃ v, cs[j]? = some v ∧ w.cell? (a.add j) = some v := by
  unfold World.cells? at h
  split at h
  · obtain ⟨h1, h2⟩ := mapM_get h
    refine ⟨by simpa using h1, fun j hj => ?_⟩
    obtain ⟨v, h3, h4⟩ := h2 j j (by simp [hj])
    exact ⟨v, h3, h4⟩
  · cases h

theorem cell_spot {a : Addr} {v : Value} (h : w.cell? a = some v) : a.spot = none ∧ a.block < w.heap.size := by
  unfold World.cell? at h
  split at h
  · rename_i c _ _ hc
    split at h
    · cases h
    · rename_i hs
      exact ⟨by simpa using hs, (Array.getElem?_eq_some_iff.1 hc).1⟩
  · cases h

theorem trod_enc (TOK : TysOK P τ) : ∀ (fuel : Nat) (t : TypeId) (i : TInfo) (cs : List Value) (x : DataW H × List MemPlace), τ t = some i → DataW.trod enc P w 0 (fun _ => true) true fuel t cs = some x → bulk x.1 ≤ 1048576 → ∃ y, Enc w (allS w) i.g y cs ∧ small i.g y
  | 0, t, i, cs, x, _, h, _ => by simp [DataW.trod] at h
  | fuel + 1, t, i, cs, x, hi, h, hb => by
    have T := TOK t i hi
    have hd := T.desc
    have hcl := cellsOf_eq (P := P) TOK hi
    obtain ⟨g, nf, by_, el⟩ := i
    cases g with
    | unit => exact hd.elim
    | err =>
      obtain ⟨ms, hd⟩ := hd
      simp only [DataW.trod, hd] at h
      split at h <;> first | exact ⟨false, .inl ⟨rfl, rfl⟩, trivial⟩ | exact ⟨true, .inr ⟨rfl, _, _, rfl⟩, trivial⟩ | (simp_all; done)
    | bool =>
      simp only at hd
      simp only [DataW.trod, hd] at h
      split at h <;> first | exact ⟨_, rfl, trivial⟩ | simp_all
    | int k =>
      simp only at hd
      simp only [DataW.trod, hd] at h
      split at h <;> try (simp_all; done)
      rename_i k' k2 n heq
      split at h
      · rename_i hk
        simp only [Option.some.injEq, TypeDesc.int.injEq] at heq
        obtain ⟨hk1, hk2⟩ := hk
        subst heq
        subst hk1
        simp only [Lit.wf, Bool.and_eq_true, decide_eq_true_eq] at hk2
        exact ⟨n, ⟨rfl, hk2⟩, trivial⟩
      · cases h
    | str =>
      simp only at hd
      simp only [DataW.trod, hd] at h
      split at h <;> try (simp_all; done)
      rename_i s' _
      split at h
      · rename_i hs
        simp only [Option.some.injEq] at h
        subst h
        simp only [bulk] at hb
        refine ⟨s'.data.toList, ⟨rfl, ?_⟩, ?_⟩
        · simp only [maxStr]; omega
        · show List.length _ ≤ _
          omega
      · cases h
    | prod a b =>
      obtain ⟨fs, q1, q2, q3, q4, q5⟩ := hd
      simp only [DataW.trod, q1] at h
      split at h
      · rename_i hl
        obtain ⟨xs, h1, h2⟩ := Option.map_eq_some_iff.1 h
        obtain ⟨h3, h4⟩ := mapM_get h1
        subst h2
        refine chain_enc q3 (by rw [hl, hcl]) (fun k hk => ?_)
        have hk' : k < fs.size := by omega
        obtain ⟨r1, r2, r3, j, r4, r5, r6⟩ := q5 k fs[k] (by simp [hk'])
        obtain ⟨y, h5, h6⟩ := h4 k fs[k] (by simp [hk'])
        have hby : bulk y.1 ≤ 1048576 := by
          have := bulk_mem (d := y.1) (l := xs.map (·.1)) (List.mem_map.2 ⟨y, List.mem_of_getElem? h5, rfl⟩)
          simp only [bulk] at hb
          omega
        obtain ⟨z, hz, hsz⟩ := trod_enc TOK fuel _ j _ _ r4 h6 hby
        refine ⟨j.g, z, r5, ?_, hsz⟩
        rw [r2, cellsOf_eq TOK r4] at hz
        exact hz
      · cases h
    | arr n a =>
      obtain ⟨e, j, q1, q2, q3⟩ := hd
      subst q3
      simp only [DataW.trod, q1] at h
      split at h
      · rename_i hl
        obtain ⟨xs, h1, h2⟩ := Option.map_eq_some_iff.1 h
        obtain ⟨h3, h4⟩ := mapM_get h1
        subst h2
        have hce := cellsOf_eq (P := P) TOK q2
        obtain ⟨zs, k1, k2, k3⟩ := row_enc (w := w) (S := allS w) (g := j.g) n (cs := cs) (by rw [hl, hcl]; rfl) (fun k hk => by
          obtain ⟨y, h5, h6⟩ := h4 k k (by simp [hk])
          have hby : bulk y.1 ≤ 1048576 := by
            have := bulk_mem (d := y.1) (l := xs.map (·.1)) (List.mem_map.2 ⟨y, List.mem_of_getElem? h5, rfl⟩)
            simp only [bulk] at hb
            omega
          rw [hce] at h6
          exact trod_enc TOK fuel _ j _ _ q2 h6 hby)
        exact ⟨zs, ⟨k1, k2⟩, k3⟩
      · cases h
    | sl a =>
      obtain ⟨e, j, ti, q1, q2, q3, q4, q5, q6, q7, q8, q9⟩ := hd
      subst q4
      have hce := cellsOf_eq (P := P) TOK q3
      have hadd : ∀ (blk off j : Nat), (⟨blk, off, none⟩ : Addr).add j = ⟨blk, off + j, none⟩ := by
        intro blk off j
        unfold Addr.add
        split
        · rename_i hj; subst hj; rfl
        · rfl
      simp only [DataW.trod, q1] at h
      split at h <;> try (simp_all; done)
      · exact ⟨[], ⟨none, 0, rfl, Nat.le_refl _, by simp, by simp [maxRow], .inl rfl⟩, by simp, by simp⟩
      · rename_i e' ad len cap heq
        simp only [Option.some.injEq, TypeDesc.slice.injEq] at heq
        subst heq
        split at h
        · rename_i hcond
          obtain ⟨elems, h1, h2⟩ := Option.bind_eq_some_iff.1 h
          obtain ⟨rest, h3, h4⟩ := Option.map_eq_some_iff.1 h2
          subst h4
          obtain ⟨k1, k2⟩ := mapM_get h1
          have hlen : len ≤ 1048576 := by
            have := bulk_len (elems.map (·.1))
            simp only [bulk] at hb
            simp at this k1
            omega
          have hel : ∀ k, k < len → ∃ ck z, w.cells? 0 (ad.add (k * ncell j.g)) (ncell j.g) = some ck ∧ Enc w (allS w) j.g z ck ∧ small j.g z := by
            intro k hk
            obtain ⟨y, h5, h6⟩ := k2 k k (by simp [hk])
            obtain ⟨ck, h7, h8⟩ := Option.bind_eq_some_iff.1 h6
            have hby : bulk y.1 ≤ 1048576 := by
              have := bulk_mem (d := y.1) (l := elems.map (·.1)) (List.mem_map.2 ⟨y, List.mem_of_getElem? h5, rfl⟩)
              simp only [bulk] at hb
              omega
            rw [hce] at h7
            obtain ⟨z, hz, hsz⟩ := trod_enc TOK fuel _ j _ _ q3 h8 hby
            exact ⟨ck, z, h7, hz, hsz⟩
          rcases Nat.eq_zero_or_pos len with h0 | h0
          · subst h0
            exact ⟨[], ⟨some ad, cap, rfl, Nat.zero_le _, by simp, by simp [maxRow], .inl rfl⟩, by simp, by simp⟩
          · have hspot : ad.spot = none := by
              obtain ⟨ck, z, h7, _⟩ := hel 0 h0
              obtain ⟨_, h8⟩ := cells_get h7
              obtain ⟨v, _, h9⟩ := h8 0 q9
              rw [Nat.zero_mul, show (ad.add 0).add 0 = ad from rfl] at h9
              exact (cell_spot h9).1
            obtain ⟨blk, off, spot⟩ := ad
            simp only at hspot
            subst hspot
            let ds : List Value := (List.range (len * ncell j.g)).map fun q => (w.cell? ⟨blk, off + q, none⟩).getD undef
            have hds : ∀ k, k < len → ∀ q, q < ncell j.g → ∃ v, w.cell? ⟨blk, off + (k * ncell j.g + q), none⟩ = some v := by
              intro k hk q hq
              obtain ⟨ck, z, h7, _⟩ := hel k hk
              obtain ⟨_, h8⟩ := cells_get h7
              obtain ⟨v, _, h9⟩ := h8 q hq
              rw [hadd, hadd] at h9
              exact ⟨v, by rw [← Nat.add_assoc]; exact h9⟩
            have hseg : ∀ k ck, k < len → w.cells? 0 (Addr.add ⟨blk, off, none⟩ (k * ncell j.g)) (ncell j.g) = some ck → (ds.drop (k * ncell j.g)).take (ncell j.g) = ck := by
              intro k ck hk hc
              obtain ⟨h8, h9⟩ := cells_get hc
              have hle : (k + 1) * ncell j.g ≤ len * ncell j.g := Nat.mul_le_mul_right _ hk
              rw [Nat.add_mul, Nat.one_mul] at hle
              apply List.ext_getElem?
              intro q
              rw [List.getElem?_take]
              split
              · rename_i hq
                obtain ⟨v, h10, h11⟩ := h9 q hq
                rw [hadd, hadd, Nat.add_assoc] at h11
                rw [List.getElem?_drop, h10]
                simp only [ds, List.getElem?_map]
                rw [List.getElem?_range (by omega)]
                simp [h11]
              · rename_i hq
                rw [List.getElem?_eq_none (by omega)]
            obtain ⟨zs, r1, r2, r3⟩ := row_enc (w := w) (S := allS w) (g := j.g) len (cs := ds) (by simp [ds]) (fun k hk => by
              obtain ⟨ck, z, h7, h8, h9⟩ := hel k hk
              exact ⟨z, by rw [hseg k ck hk h7]; exact h8, h9⟩)
            have hlb := (TOK e j q3).small.2
            have hlm : len * lbytes j.g ≤ 1048576 * 1048576 := Nat.mul_le_mul hlen hlb
            refine ⟨zs, ⟨some ⟨blk, off, none⟩, cap, by rw [r1], by rw [r1]; exact hcond.2.1, by rw [r1]; simp only [maxRow]; omega, by rw [r1]; simp only [maxRow]; omega, .inr ⟨blk, off, ds, rfl, r2, fun q v hv => ?_⟩⟩, ?_⟩
            rotate_left
            · exact ⟨by rw [r1]; exact hlen, r3⟩
            simp only [ds, List.getElem?_map] at hv
            by_cases hq : q < len * ncell j.g
            · rw [List.getElem?_range hq] at hv
              have hk : q / ncell j.g < len := by
                rw [Nat.div_lt_iff_lt_mul q9]; exact hq
              obtain ⟨v', hv'⟩ := hds (q / ncell j.g) hk (q % ncell j.g) (Nat.mod_lt _ q9)
              rw [show q / ncell j.g * ncell j.g + q % ncell j.g = q from by rw [Nat.mul_comm]; exact Nat.div_add_mod q _] at hv'
              simp only [hv', Option.map_some, Option.getD_some, Option.some.injEq] at hv
              subst hv
              exact ⟨hv', (cell_spot hv').2⟩
            · rw [List.getElem?_eq_none (by simp; omega)] at hv
              simp at hv
        · cases h
theorem val_of_ok (TOK : TysOK P τ) {t : TypeId} {i : TInfo} (hi : τ t = some i) {base : Nat} {v : Value} (hok : Value.okWide P w .any base t v) (hl : v.cells.toList.length = ncell i.g) : v = toVal i.g v.cells.toList := by
  have T := TOK t i hi
  have ha := T.agg
  unfold toVal
  cases h : isAgg i.g with
  | true =>
    rw [h] at ha
    unfold Value.okWide at hok
    split at hok
    · obtain ⟨cs, rfl, _⟩ := hok; simp [Value.cells]
    · obtain ⟨cs, rfl, _⟩ := hok; simp [Value.cells]
    · rename_i h1 h2
      split at ha
      · rename_i hu; exact (h1 _ hu).elim
      · rename_i hu; exact (h2 _ _ hu).elim
      · cases ha
  | false =>
    rw [h] at ha
    have hna : ∀ cs, v ≠ .agg cs := by
      rintro cs rfl
      unfold Value.okWide at hok
      split at hok
      · rename_i hu; simp [hu] at ha
      · rename_i hu; simp [hu] at ha
      · unfold Cell.okWide at hok
        split at hok <;> try (rename_i hh; cases hh; done)
        unfold Cell.ok at hok
        split at hok <;> first | exact hok | (rename_i hh; cases hh)
    cases v <;> first | rfl | exact (hna _ rfl).elim
def tysD (τ : Tys) : List TypeId → Option (List GTy)
  | [] => some []
  | t :: ts => match τ t, tysD τ ts with
    | some i, some gs => some (i.g :: gs)
    | _, _ => none

theorem trodAll_enc (TOK : TysOK P τ) {base : Nat} : ∀ {ts : List TypeId} {gs : List GTy} {vs : List Value} {ds : List (DataW H)} {ps : List MemPlace}, tysD τ ts = some gs → DataW.TrodAll enc P w 0 (fun _ => true) true ts vs ds ps → bulkAll ds ≤ 1048576 →
    (∀ (j : Nat) t v, ts[j]? = some t → vs[j]? = some v → Value.okWide P w .any base t v) → ∃ x, EncD w (allS w) gs x vs ∧ smallD gs x
  | [], gs, vs, ds, ps, hg, h, _, _ => by
    simp only [tysD, Option.some.injEq] at hg
    subst hg
    obtain ⟨rfl, _, _⟩ := ChangeShapes.trodAll_nil h
    exact ⟨(), rfl, trivial⟩
  | t :: ts, gs, vs, ds, ps, hg, h, hb, hok => by
    simp only [tysD] at hg
    split at hg
    · rename_i i gs' hi hgs
      simp only [Option.some.injEq] at hg
      subst hg
      obtain ⟨v, vs', d, ds', p, q, rfl, rfl, rfl, ⟨fuel, h1⟩, h2⟩ := ChangeShapes.trodAll_cons h
      simp only [bulkAll] at hb
      obtain ⟨x, hx, hsx⟩ := trod_enc TOK fuel t i _ _ hi h1 (by simp only; omega)
      obtain ⟨y, hy, hsy⟩ := trodAll_enc TOK (base := base) hgs h2 (by omega) (fun j t v h3 h4 => hok (j + 1) t v (by simpa using h3) (by simpa using h4))
      have hv := val_of_ok TOK hi (hok 0 t v rfl rfl) hx.len
      cases gs' with
      | nil =>
        have hvs : vs' = [] := hy
        subst hvs
        exact ⟨x, ⟨_, hx, by rw [← hv]⟩, hsx⟩
      | cons g' gs' => exact ⟨(x, y), ⟨_, vs', hx, by rw [← hv], hy⟩, hsx, hsy⟩
    · cases hg

theorem trodAll_stays (hl : laidOutB P = true) {W W' : World} (hb : RowKit.Below W.heap.size W W') {sp : Nat → Bool} : ∀ {ts : List TypeId} {vs : List Value} {ds : List (DataW H)} {ps : List MemPlace}, (∀ t ∈ ts, P.readableRec t = true ∧ t < P.types.size) →
    DataW.TrodAll enc P W 0 (fun _ => true) true ts vs ds ps → (∀ p ∈ ps, p.block < W.heap.size) → (∀ p ∈ ps, sp p.block = true) → DataW.TrodAll enc P W' 0 sp true ts vs ds ps
  | [], vs, ds, ps, _, h, _, _ => by
    obtain ⟨rfl, rfl, rfl⟩ := ChangeShapes.trodAll_nil h
    exact ChangeShapes.trodAll_mk0
  | t :: ts, vs, ds, ps, hr, h, hlt, hs => by
    obtain ⟨v, vs', d, ds', p, q, rfl, rfl, rfl, h1, h2⟩ := ChangeShapes.trodAll_cons h
    refine trodAll_cons_mk (WideElems.Trod_stays hl (hr t (by simp)).1 (hr t (by simp)).2 h1 (fun x hx => hb.same (hlt x (by simp [hx]))) (fun x hx => hs x (by simp [hx]))) ?_
    exact trodAll_stays hl hb (fun t ht => hr t (by simp [ht])) h2 (fun p hp => hlt p (by simp [hp])) (fun p hp => hs p (by simp [hp]))

theorem kept_of_grows {W W' : World} (h : Grows W W') (may : MemPlace → Prop) : W.keptBut W' may := by
  refine ⟨h.os, h.output, fun i hi => ?_⟩
  rw [h.block i hi]
  cases hh : W.heap[i]? with
  | none => trivial
  | some o => cases o <;> simp

theorem frozen_of_grows {W W' : World} (h : Grows W W') {b off : Nat} (hb : b < W.heap.size) : W'.frozen? ⟨b, off, none⟩ = W.frozen? ⟨b, off, none⟩ := by
  simp [World.frozen?, h.block b hb]
theorem law_contract (hl : laidOutB P = true) (TOK : TysOK P τ) {f : Nat} {fn : Func} {gs : List GTy} (hts : tysD τ fn.params.toList = some gs) (hread' : (fn.params.toList.all fun t => P.readableRec t && Nat.blt t P.types.size) = true)
    {tb : TypeId} (hr : fn.resultTypes = #[tb]) (htb : P.underlying tb = some .bool) (hc : CtrOK P f { args := gs, res := [.bool], pre := some (smallD gs), fn := fun _ => true })
    {s : ChangeSpec} (hvars : s.vars = []) (hs : ∀ ds : List (DataW H), ds.length = fn.params.toList.length → s.fn H ds = ⟨[.lit (.bool true)], ds, []⟩) {apart fresh handsOn again : Bool} {W : World} {base : Nat} {args : Array Value} {ds es : List (DataW H)} {before : List MemPlace}
    (hval : ∀ (j : Nat) t v, fn.params[j]? = some t → args[j]? = some v → Value.okWide P W .any base t v) (hW : DataW.Whole enc P fn.params.toList s.vars apart W args.toList ds es before) (hb' : bulkAll (ds ++ es) ≤ 1048576) (hT : Tab (allS W) W) :
    Calls P f args W fun e W' => ∃ v, e = .returned v ∧ s.post enc P fn apart fresh handsOn again W args v W' := by
  have hW' := hW
  obtain ⟨p, q, hA, hV, rfl, hfz, hnd⟩ := hW
  rw [hvars] at hV
  obtain ⟨rfl, rfl⟩ := trodVars_none hV
  have hb : bulkAll ds ≤ 1048576 := by rw [List.append_nil] at hb'; exact hb'
  have hread : ∀ t ∈ fn.params.toList, P.readableRec t = true ∧ t < P.types.size := by
    intro t ht
    have := List.all_eq_true.1 hread' t ht
    simp only [Bool.and_eq_true] at this
    exact ⟨this.1, by simpa [Nat.blt_eq] using this.2⟩
  obtain ⟨x, hx, hsm⟩ := trodAll_enc TOK (base := base) hts hA hb (fun j t v h1 h2 => hval j t v (by simpa using h1) (by simpa using h2))
  have hcall := hc.2 W (allS W) args.toList x (fun b o h => h) hT hx (fun p hp => by simp only [Option.some.injEq] at hp; subst hp; exact hsm)
  simp only [Array.toArray_toList] at hcall
  refine hcall.mono ?_
  rintro e W' ⟨v, he, hg, N, hN, us, ⟨cs, hcs, hus⟩, hv⟩
  subst hus
  simp only at hv
  have hcs' : cs = [.bool true] := hcs
  subst hcs'
  have hv' : v = .bool true := hv
  subst hv'
  have hlt : ∀ x ∈ p, x.block < W.heap.size := fun y hy => hW'.lt y (by simp [hy])
  have hbel : RowKit.Below W.heap.size W W' := ⟨hg.os, hg.tape, hg.output, hg.size, hg.block⟩
  have hlen := (trodAll_length hA).2
  have hfn : s.fn H (ds ++ []) = ⟨[.lit (.bool true)], ds, []⟩ := by
    rw [List.append_nil]; exact hs ds hlen
  have hres : ∀ (b : Nat) (sp : Nat → Bool) (hd : Bool), DataW.TrodAll enc P W' b sp hd fn.resultTypes.toList ((Value.bool true).resultList fn.resultTypes.size) [.lit (.bool true)] [] := by
    intro b sp hd
    rw [hr]
    exact ⟨[], [], shut_bool htb true, trodAll_mk0, rfl⟩
  have hargs : ∀ sp : Nat → Bool, (∀ x ∈ p, sp x.block = true) → DataW.TrodAll enc P W' 0 sp true fn.params.toList args.toList ds p := fun sp hsp => trodAll_stays hl hbel hread hA hlt hsp
  refine ⟨_, he, ds, [], p ++ [], [], p, [], hW', ?_, ?_, ?_, kept_of_grows hg _, fun _ => ⟨ok_one hr rfl (okWide_bool_mk htb _), _, [], ([] ++ p) ++ [], ⟨[] ++ p, [], trodAll_append (hargs _ (fun _ _ => rfl)) (hres _ _ _), ?_, rfl, ?_, ?_⟩, ?_⟩⟩
  · rw [hfn]; exact hres _ _ _
  · rw [hfn]; exact hargs _ (fun x hx => by simpa using hlt x hx)
  · rw [hfn, hvars]; rfl
  · rw [hvars]; rfl
  · intro b off hm
    have hm' : MemPlace.cell b off ∈ p := by simpa using hm
    have hb' : b < W.heap.size := hlt _ hm'
    rw [frozen_of_grows hg hb']
    exact hfz b off (by simpa using hm')
  · intro ha
    have := hnd ha
    simpa using this
  · intro x hx _
    simpa using hx
end
end Go.Ev
/-
  DERIVED: THE SHELF's CONTRACTS AT THIS DUMP, IN PLAIN WORDS (tools/lay-plain.mjs out of 'TryJoin.lean', which tools/lay-shelf.mjs wrote): THE SAME DECLARATIONS UNDER THE SAME NAMES: 'import', 'namespace', 'open', 'def', 'theorem' AND NOTHING ELSE: no command of the shelf's: FOR A HAND-IN. Each laying: the table of numbers ('.._ren') and one theorem, a field a fact of the dump's own or the kernel's comparison; each contract: ONE APPLICATION.
-/
namespace Go.Proofs
open Go.Shelf
def Tryz.lays156_ren : Go.Shelf.Ren := ⟨fun | 156 => 108 | 165 => 111 | 166 => 28 | 169 => 29 | 240 => 54 | 241 => 112 | 276 => 79 | 277 => 113 | n => n, fun | 31 => 42 | 9 => 9 | 3 => 3 | 4 => 4 | 0 => 0 | 20 => 20 | 72 => 87 | 76 => 91 | 70 => 84 | 37 => 85 | 75 => 90 | 127 => 132 | 164 => 166 | 5 => 5 | 80 => 93 | n => n, fun | n => n⟩
theorem Tryz.lays156 : Go.Proofs.Lays.n156 Tryz.prog Tryz.lays156_ren := {
  mixed := by kernel_rfl
  f156 := Tryz.func108.trans (congrArg some (by kernel_rfl))
  f165 := Tryz.func111.trans (congrArg some (by kernel_rfl))
  f166 := Tryz.func28.trans (congrArg some (by kernel_rfl))
  f169 := Tryz.func29.trans (congrArg some (by kernel_rfl))
  f240 := Tryz.func54.trans (congrArg some (by kernel_rfl))
  f241 := Tryz.func112.trans (congrArg some (by kernel_rfl))
  f276 := Tryz.func79.trans (congrArg some (by kernel_rfl))
  f277 := Tryz.func113.trans (congrArg some (by kernel_rfl))
  t0 := Tryz.underlying0
  a0 := Tryz.isAgg0
  z0 := Tryz.sizeOf0
  v0 := Tryz.zeroValue0
  t3 := Tryz.underlying3
  a3 := Tryz.isAgg3
  z3 := Tryz.sizeOf3
  v3 := Tryz.zeroValue3
  t4 := Tryz.underlying4
  a4 := Tryz.isAgg4
  z4 := Tryz.sizeOf4
  v4 := Tryz.zeroValue4
  t9 := Tryz.underlying9
  a9 := Tryz.isAgg9
  z9 := Tryz.sizeOf9
  v9 := Tryz.zeroValue9
  t20 := Tryz.underlying20
  a20 := Tryz.isAgg20
  z20 := Tryz.sizeOf20
  v20 := Tryz.zeroValue20
  t31 := Tryz.underlying42
  a31 := Tryz.isAgg42
  z31 := Tryz.sizeOf42
  v31 := Tryz.zeroValue42
  t37 := Tryz.underlying85
  a37 := Tryz.isAgg85
  z37 := Tryz.sizeOf85
  v37 := Tryz.zeroValue85
  t70 := Tryz.underlying84
  a70 := Tryz.isAgg84
  z70 := Tryz.sizeOf84
  v70 := Tryz.zeroValue84
  t72 := Tryz.underlying87
  a72 := Tryz.isAgg87
  z72 := Tryz.sizeOf87
  v72 := Tryz.zeroValue87
  t75 := Tryz.underlying90
  a75 := Tryz.isAgg90
  z75 := Tryz.sizeOf90
  v75 := Tryz.zeroValue90
  t76 := Tryz.underlying91
  a76 := Tryz.isAgg91
  z76 := Tryz.sizeOf91
  v76 := Tryz.zeroValue91
  t127 := Tryz.underlying132
  a127 := Tryz.isAgg132
  z127 := Tryz.sizeOf132
  v127 := Tryz.zeroValue132
  t164 := Tryz.underlying166
  a164 := Tryz.isAgg166
  z164 := Tryz.sizeOf166
  v164 := Tryz.zeroValue166 }
theorem Tryz.Builder_Extra_156 : Builder.Extra Tryz.prog Tryz.lays156_ren := {
  sizeBuilder := by kernel_rfl
  liesBuilder := by kernel_rfl
  t5 := Tryz.underlying5
  a5 := Tryz.isAgg5
  z5 := Tryz.sizeOf5
  v5 := Tryz.zeroValue5
  infoByte := by kernel_rfl
  cellsByte := by kernel_rfl
  sizeByte := by kernel_rfl
  neB5 := by decide }
open Go.RowKit in
theorem Tryz.strings_Join (bk o c : Nat) (xs : List ByteArray) (sep : ByteArray) (w : World) (hcells : ∀ (j : Nat) x, xs[j]? = some x → w.cell? ⟨bk, o + j, none⟩ = some (.string x)) (hbk : bk < w.heap.size) (hN : xs.length ≤ 140737488355328) (hcap : xs.length ≤ c) (hlen : (Lib.join (xs.map (·.data.toList)) sep.data.toList).length ≤ 140737488355328) :
    Calls Tryz.prog 108 #[.slice (some ⟨bk, o, none⟩) xs.length c, .string sep] w fun e w' => e = .returned (.string ⟨(Lib.join (xs.map (·.data.toList)) sep.data.toList).toArray⟩) ∧ Below w.heap.size w w' := Any.strings_Join Tryz.lays156 Tryz.Builder_Extra_156 bk o c xs sep w hcells hbk hN hcap hlen
end Go.Proofs
/- Texts joined: the library's contract, as one of ours. -/
set_option linter.unusedVariables false
set_option linter.unusedSimpArgs false
namespace Go.Ev.Z
open Go.Proofs
theorem strs_enc {w : World} {S : Stab} : ∀ {xs : List (List UInt8)} {ds : List Value}, encL (Enc w S .str) xs ds → ds = xs.map fun s => Value.string ⟨⟨s⟩⟩
  | [], ds, h => h
  | x :: xs, ds, ⟨c, d, h1, h2, h3⟩ => by rw [h1, strs_enc h3, show c = [.string ⟨⟨x⟩⟩] from h2.1]; rfl
theorem join_flat : ∀ xs : List (List UInt8), Lib.join xs [] = xs.flatten := by
  intro xs
  simp only [Lib.join]
  induction xs with
  | nil => rfl
  | cons x xs ih =>
    cases xs with
    | nil => simp [List.intercalate]
    | cons y ys =>
      have : List.intercalate ([] : List UInt8) (x :: y :: ys) = x ++ ([] ++ List.intercalate [] (y :: ys)) := by simp [List.intercalate, List.intersperse]
      rw [this, ih]
      simp
def sjoinC : Ctr := { args := [.sl .str, .str], res := [.str], pre := some (fun (x : List (List UInt8) × List UInt8) => x.1 ≠ [] ∧ x.2.length = 0 ∧ x.1.flatten.length ≤ 100000), fn := fun (x : List (List UInt8) × List UInt8) => x.1.flatten }
theorem sjoin_ok : CtrOK Tryz.prog 108 sjoinC := by
  refine ⟨⟨_, fnOf_eq (by kernel_rfl), by kernel_rfl, by kernel_rfl⟩, ?_⟩
  intro w S us (x : List (List UInt8) × List UInt8) hS hT henc hpre
  obtain ⟨xs, sep⟩ := x
  obtain ⟨hne, h2', hlen⟩ : xs ≠ [] ∧ sep.length = 0 ∧ xs.flatten.length ≤ 100000 := hpre _ rfl
  have h2 : sep = [] := List.eq_nil_of_length_eq_zero h2'
  subst h2
  obtain ⟨cs, us', h3, h4, h5⟩ := henc
  obtain ⟨cs2, h6, h7⟩ := h5
  obtain ⟨ad, cap, g1, g2, g3, g4, g5⟩ := h3
  have h6' : cs2 = [.string ⟨⟨[]⟩⟩] := h6.1
  subst h6' g1 h7 h4
  rcases g5 with g5 | ⟨blk, off, ds, rfl, g6, g7⟩
  · exact absurd g5 hne
  have hds := strs_enc g6
  have hlen' : xs.length ≤ 140737488355328 := g4
  have hpos : 0 < xs.length := List.length_pos_iff.2 hne
  have hmap : (xs.map fun s => (⟨⟨s⟩⟩ : ByteArray)).map (·.data.toList) = xs := by simp [List.map_map, Function.comp_def]
  have h0 : ds[0]? = some (Value.string ⟨⟨xs[0]⟩⟩) := by rw [hds]; simp [hpos]
  have hbk : blk < w.heap.size := hS _ _ (g7 0 _ h0).2
  have key := Tryz.strings_Join blk off cap (xs.map fun s => ⟨⟨s⟩⟩) ⟨⟨[]⟩⟩ w (fun j x hx => ?_) hbk (by simpa using hlen') (by simpa using g2) (by
    rw [hmap]
    show (Lib.join xs []).length ≤ _
    rw [join_flat]; omega)
  · rw [hmap] at key
    have e : (Lib.join xs (⟨⟨[]⟩⟩ : ByteArray).data.toList) = xs.flatten := join_flat xs
    rw [e, List.length_map] at key
    refine key.mono ?_
    rintro e' w' ⟨rfl, hb⟩
    exact ⟨_, rfl, ⟨hb.os, hb.tape, hb.output, hb.size, hb.block⟩, fun _ _ => False, fun _ _ h => h.elim, [_], ⟨_, ⟨rfl, by show xs.flatten.length ≤ maxStr; unfold maxStr; omega⟩, rfl⟩, rfl⟩
  · rw [List.getElem?_map] at hx
    obtain ⟨y, hy, rfl⟩ := Option.map_eq_some_iff.1 hx
    refine (g7 j _ ?_).1
    rw [hds, List.getElem?_map, hy]
    rfl
def joinG : List (Nat × Ctr) := [(108, sjoinC)]
theorem joinG_ok : CtrsOK Tryz.prog (fun f => lk f joinG) := ctrs_cons sjoin_ok ctrs_nil
def joinC : Ctr := { args := [.sl .str], res := [.str], pre := some (fun (x : List (List UInt8)) => x ≠ [] ∧ x.flatten.length ≤ 100000), fn := fun (x : List (List UInt8)) => x.flatten }
theorem join_tree : (fun x : List (List UInt8) => evFn (mkC tys joinG []) (fnOf Tryz.prog 105) (resL joinC.args x) joinC.res) = (fun x => Tree.need (x ≠ [] ∧ (0 : Nat) = (0 : Nat) ∧ List.length (List.flatten x) ≤ (100000 : Nat)) (Tree.leaf (List.flatten x))) := by kernel_rfl
theorem join_ok : CtrOK Tryz.prog 105 joinC :=
  fun_ok (G := joinG) (Λ := []) tysOK joinG_ok mixed (by kernel_rfl) (by kernel_rfl) (by kernel_rfl) (by kernel_rfl) lp_nil fun (x : List (List UInt8)) hw hp => by
    rw [congrFun join_tree x]
    obtain ⟨h1, h2⟩ : x ≠ [] ∧ x.flatten.length ≤ 100000 := hp _ rfl
    simp only [Tree.holds]
    exact ⟨⟨h1, trivial, h2⟩, rfl⟩
end Go.Ev.Z
/- Frames by the program itself. -/
set_option linter.unusedVariables false
set_option linter.unusedSimpArgs false
namespace Go.Ev.Z
open Go.Proofs
def csumC : Ctr := { args := [.str], res := [.int .u32], pre := none, fn := fun (x : List UInt8) => sumF x }
def csumG : List (Nat × Ctr) := [(98, moreC)]
theorem csum_tree : (fun x : List UInt8 => evFn (mkC tys csumG []) (fnOf Tryz.prog 80) (resL csumC.args x) csumC.res) = (fun x => Tree.leaf (moreF (1 : Int) x)) := by kernel_rfl
theorem csum_ok : CtrOK Tryz.prog 80 csumC :=
  fun_ok (G := csumG) (Λ := []) tysOK (ctrs_cons more_ok ctrs_nil) mixed (by kernel_rfl) (by kernel_rfl) (by kernel_rfl) (by kernel_rfl) lp_nil fun (x : List UInt8) hw _ => by
    rw [congrFun csum_tree x]
    exact holds_val (d := csumC.fn x) (by kernel_rfl) (by simp [Tree.safe])
def csealG : List (Nat × Ctr) := [(80, csumC), (53, numC)]
theorem csealG_ok : CtrsOK Tryz.prog (fun f => lk f csealG) := (ctrs_cons csum_ok (ctrs_cons num_ok ctrs_nil))
def csealC : Ctr := { args := [.str], res := [.str], pre := some (fun (x : List UInt8) => x.length ≤ 100000000), fn := fun (x : List UInt8) => sealF x }
theorem cseal_tree : (fun x : List UInt8 => evFn (mkC tys csealG []) (fnOf Tryz.prog 104) (resL csealC.args x) csealC.res) = (fun x => Tree.need (List.length x + List.length (numF (IntKind.wrap IntKind.u64 (sumF x)) (4 : Int)) ≤ (4611686018427387904 : Nat)) (Tree.leaf (x ++ numF (IntKind.wrap IntKind.u64 (sumF x)) (4 : Int)))) := by kernel_rfl
theorem cseal_ok : CtrOK Tryz.prog 104 csealC :=
  fun_ok (G := csealG) (Λ := []) tysOK csealG_ok mixed (by kernel_rfl) (by kernel_rfl) (by kernel_rfl) (by kernel_rfl) lp_nil fun (x : List UInt8) hw hpre => by
    rw [congrFun cseal_tree x]
    have hp : x.length ≤ 100000000 := hpre _ rfl
    simp only [Tree.holds]
    exact ⟨by rw [numF_len4]; omega, rfl⟩
def copenG : List (Nat × Ctr) := [(80, csumC), (53, numC)]
theorem copenG_ok : CtrsOK Tryz.prog (fun f => lk f copenG) := (ctrs_cons csum_ok (ctrs_cons num_ok ctrs_nil))
def copenC : Ctr := { args := [.str], res := [.str, .int .i64], pre := none, fn := fun (x : List UInt8) => unsealF x }
theorem copen_tree : (fun x : List UInt8 => evFn (mkC tys copenG []) (fnOf Tryz.prog 55) (resL copenC.args x) copenC.res) = (fun x => Tree.br (decide ((↑(List.length x) : Int) < (4 : Int))) (Tree.leaf ([], (2 : Int))) (Tree.need ((0 : Int) ≤ IntKind.wrap IntKind.i64 ((↑(List.length x) : Int) - (4 : Int)) ∧ IntKind.wrap IntKind.i64 ((↑(List.length x) : Int) - (4 : Int)) ≤ (↑(List.length x) : Int)) (Tree.need ((0 : Int) ≤ IntKind.wrap IntKind.i64 ((↑(List.length x) : Int) - (4 : Int)) ∧ IntKind.wrap IntKind.i64 ((↑(List.length x) : Int) - (4 : Int)) ≤ (↑(List.length x) : Int)) (Tree.br (!numF (IntKind.wrap IntKind.u64 (sumF (List.take (Int.toNat (IntKind.wrap IntKind.i64 ((↑(List.length x) : Int) - (4 : Int)))) x))) (4 : Int) == List.drop (Int.toNat (IntKind.wrap IntKind.i64 ((↑(List.length x) : Int) - (4 : Int)))) x) (Tree.leaf ([], (5 : Int))) (Tree.leaf (List.take (Int.toNat (IntKind.wrap IntKind.i64 ((↑(List.length x) : Int) - (4 : Int)))) x, (0 : Int))))))) := by kernel_rfl
theorem copen_ok : CtrOK Tryz.prog 55 copenC :=
  fun_ok (G := copenG) (Λ := []) tysOK copenG_ok mixed (by kernel_rfl) (by kernel_rfl) (by kernel_rfl) (by kernel_rfl) lp_nil fun (x : List UInt8) hw hpre => by
    rw [congrFun copen_tree x]
    have hl : x.length ≤ 4611686018427387904 := hw
    have e : copenC.fn x = unsealF x := rfl
    rw [e]
    simp only [Tree.holds, unsealF]
    refine ⟨fun h => by rw [h]; rfl, fun h => ?_⟩
    have h4 : ¬ (x.length : Int) < 4 := by simpa using h
    have e1 : IntKind.i64.wrap ((x.length : Int) - 4) = (x.length : Int) - 4 := i64_id (by omega) (by omega)
    have e2 : ((x.length : Int) - 4).toNat = x.length - 4 := by omega
    rw [e1, e2]
    have hd : (x.drop (x.length - 4)).length = 4 := by rw [List.length_drop]; omega
    have hr := sum_rng (x.take (x.length - 4))
    have e5 : IntKind.wrap IntKind.u64 (sumF (x.take (x.length - 4))) = sumF (x.take (x.length - 4)) := u64_id (by omega) (by omega)
    rw [e5, num4_eq hr.1 hr.2 hd, Bool.not_not]
    refine ⟨⟨by omega, by omega⟩, ⟨by omega, by omega⟩, fun h2 => by rw [h, h2]; rfl, fun h2 => by rw [h, h2]; rfl⟩
def fwrapG : List (Nat × Ctr) := [(56, kindC), (53, numC), (105, joinC), (104, csealC)]
theorem fwrapG_ok : CtrsOK Tryz.prog (fun f => lk f fwrapG) := (ctrs_cons kind_ok (ctrs_cons num_ok (ctrs_cons join_ok (ctrs_cons cseal_ok ctrs_nil))))
def fwrapC : Ctr := { args := [.int .i64, .str], res := [.str, .int .i64], pre := none, fn := fun (x : Int × List UInt8) => wrapF x.1 x.2 }
theorem fwrap_tree : (fun x : Int × List UInt8 => evFn (mkC tys fwrapG []) (fnOf Tryz.prog 97) (resL fwrapC.args x) fwrapC.res) = (fun x => Tree.br (bif kindF x.1 == [] then true else decide ((↑(List.length x.2) : Int) > (250 : Int))) (Tree.leaf ([], (1 : Int))) (Tree.need ([numF (70 : Int) (1 : Int), numF (IntKind.wrap IntKind.u64 x.1) (1 : Int), x.2] ≠ [] ∧ List.length (List.flatten [numF (70 : Int) (1 : Int), numF (IntKind.wrap IntKind.u64 x.1) (1 : Int), x.2]) ≤ (100000 : Nat)) (Tree.need (List.length (List.flatten [numF (70 : Int) (1 : Int), numF (IntKind.wrap IntKind.u64 x.1) (1 : Int), x.2]) ≤ (100000000 : Nat)) (Tree.leaf (sealF (List.flatten [numF (70 : Int) (1 : Int), numF (IntKind.wrap IntKind.u64 x.1) (1 : Int), x.2]), (0 : Int)))))) := by kernel_rfl
theorem fwrap_ok : CtrOK Tryz.prog 97 fwrapC :=
  fun_ok (G := fwrapG) (Λ := []) tysOK fwrapG_ok mixed (by kernel_rfl) (by kernel_rfl) (by kernel_rfl) (by kernel_rfl) lp_nil fun (x : Int × List UInt8) hw hpre => by
    rw [congrFun fwrap_tree x]
    have hl : x.2.length ≤ 4611686018427387904 := hw.2
    have e : fwrapC.fn x = wrapF x.1 x.2 := rfl
    rw [e, kind_nil, num70]
    simp only [Tree.holds, wrapF]
    refine ⟨fun h => by rw [h]; rfl, fun h => ?_⟩
    have h2 : x.2.length ≤ 250 := by
      cases h3 : decide ((x.2.length : Int) > 250) with
      | false => have := of_decide_eq_false h3; omega
      | true => rw [h3] at h; simp at h
    have hf : ([[70], numF (IntKind.wrap IntKind.u64 x.1) 1, x.2] : List (List UInt8)).flatten = (([70] : List UInt8) ++ numF (IntKind.wrap IntKind.u64 x.1) 1) ++ x.2 := by simp
    have hlen : ([[70], numF (IntKind.wrap IntKind.u64 x.1) 1, x.2] : List (List UInt8)).flatten.length = x.2.length + 2 := by
      rw [hf, List.length_append, List.length_append, numF_len1]; simp; omega
    rw [hlen, hf]
    exact ⟨⟨by simp, by omega⟩, by omega, by rw [h]; rfl⟩
def fopenG : List (Nat × Ctr) := [(56, kindC), (55, copenC)]
theorem fopenG_ok : CtrsOK Tryz.prog (fun f => lk f fopenG) := (ctrs_cons kind_ok (ctrs_cons copen_ok ctrs_nil))
def fopenC : Ctr := { args := [.str], res := [.int .i64, .str, .int .i64], pre := none, fn := fun (x : List UInt8) => openF x }
theorem fopen_tree : (fun x : List UInt8 => evFn (mkC tys fopenG []) (fnOf Tryz.prog 30) (resL fopenC.args x) fopenC.res) = (fun x => Tree.br (decide ((↑(List.length x) : Int) > (256 : Int))) (Tree.leaf ((0 : Int), [], (4 : Int))) (Tree.br ((unsealF x).2 != (0 : Int)) (Tree.leaf ((0 : Int), [], (unsealF x).2)) (Tree.br (decide ((↑(List.length (unsealF x).1) : Int) < (2 : Int))) (Tree.leaf ((0 : Int), [], (2 : Int))) (Tree.need ((0 : Int) ≤ (1 : Int) ∧ (1 : Int) < (↑(List.length (unsealF x).1) : Int)) (Tree.need ((0 : Int) ≤ (0 : Int) ∧ (0 : Int) < (↑(List.length (unsealF x).1) : Int)) (Tree.br (bif (↑(UInt8.toNat (List.getD (unsealF x).1 (0 : Nat) (0 : UInt8))) : Int) != (70 : Int) then true else kindF (IntKind.wrap IntKind.i64 (↑(UInt8.toNat (List.getD (unsealF x).1 (1 : Nat) (0 : UInt8))) : Int)) == []) (Tree.leaf ((0 : Int), [], (3 : Int))) (Tree.need ((0 : Int) ≤ (2 : Int) ∧ (2 : Int) ≤ (↑(List.length (unsealF x).1) : Int)) (Tree.leaf (IntKind.wrap IntKind.i64 (↑(UInt8.toNat (List.getD (unsealF x).1 (1 : Nat) (0 : UInt8))) : Int), List.drop (2 : Nat) (unsealF x).1, (0 : Int)))))))))) := by kernel_rfl
theorem fopen_ok : CtrOK Tryz.prog 30 fopenC :=
  fun_ok (G := fopenG) (Λ := []) tysOK fopenG_ok mixed (by kernel_rfl) (by kernel_rfl) (by kernel_rfl) (by kernel_rfl) lp_nil fun (x : List UInt8) hw hpre => by
    rw [congrFun fopen_tree x]
    have e : fopenC.fn x = openF x := rfl
    rw [e, kind_nil]
    have hb : IntKind.wrap IntKind.i64 (((unsealF x).1.getD 1 0).toNat : Int) = (((unsealF x).1.getD 1 0).toNat : Int) := by
      have := ((unsealF x).1.getD 1 0).toNat_lt
      exact i64_id (by omega) (by omega)
    rw [hb]
    simp only [Tree.holds, openF]
    rw [hb]
    refine ⟨fun h => by rw [h]; rfl, fun h => ⟨fun h2 => by rw [h, h2]; rfl, fun h2 => ⟨fun h3 => by rw [h, h2, h3]; rfl, fun h3 => ?_⟩⟩⟩
    have hl : ¬ (((unsealF x).1.length : Int) < 2) := by simpa using h3
    generalize ((((unsealF x).1.getD 0 0).toNat : Int) != 70) = b1
    generalize decide ((((unsealF x).1.getD 1 0).toNat : Int) < 1) = b2
    generalize decide ((((unsealF x).1.getD 1 0).toNat : Int) > 4) = b3
    have e3 : (bif b1 then true else bif b2 then true else b3) = (bif bif b1 then true else b2 then true else b3) := by cases b1 <;> rfl
    rw [e3]
    refine ⟨by omega, by omega, fun h4 => by rw [h, h2, h3, h4]; rfl, fun h4 => ⟨by omega, by rw [h, h2, h3, h4]; rfl⟩⟩
end Go.Ev.Z
/- Items in bytes, one behind the other. -/
set_option linter.unusedVariables false
set_option linter.unusedSimpArgs false
namespace Go.Ev.Z
open Go.Proofs
def iokC : Ctr := { args := [gItem], res := [.bool], pre := none, fn := fun (x : DItem) => itemOk x }
def iokG : List (Nat × Ctr) := [(58, rightC)]
theorem iok_tree : (fun x : DItem => evFn (mkC tys iokG []) (fnOf Tryz.prog 52) (resL iokC.args x) iokC.res) = (fun x => Tree.br (bif bif !rightF x.1 then true else decide (x.2.1 < (0 : Int)) then true else decide (x.2.1 > (2 : Int))) (Tree.leaf false) (Tree.br (x.2.2.1 == (0 : Int)) (Tree.leaf (x.2.2.2 == (-1 : Int))) (Tree.br (x.2.2.1 == (4294967295 : Int)) (Tree.leaf (x.2.2.2 == (-1 : Int))) (Tree.leaf (bif bif rightF x.2.2.2 then x.2.2.2 != x.1 else false then decide (x.2.2.1 ≤ (983040 : Int)) else false))))) := by kernel_rfl
theorem iok_ok : CtrOK Tryz.prog 52 iokC :=
  fun_ok (G := iokG) (Λ := []) tysOK (ctrs_cons right_ok ctrs_nil) mixed (by kernel_rfl) (by kernel_rfl) (by kernel_rfl) (by kernel_rfl) lp_nil fun (x : DItem) hw _ => by
    rw [congrFun iok_tree x]
    exact holds_val (d := iokC.fn x) (by kernel_rfl) (by simp [Tree.safe])
def ibytesG : List (Nat × Ctr) := [(52, iokC), (53, numC)]
theorem ibytesG_ok : CtrsOK Tryz.prog (fun f => lk f ibytesG) := (ctrs_cons iok_ok (ctrs_cons num_ok ctrs_nil))
def ibytesC : Ctr := { args := [gItem], res := [.str, .int .i64], pre := none, fn := fun (x : DItem) => itemF x }
theorem ibytes_tree : (fun x : DItem => evFn (mkC tys ibytesG []) (fnOf Tryz.prog 27) (resL ibytesC.args x) ibytesC.res) = (fun x => Tree.br (!itemOk x) (Tree.leaf ([], (1 : Int))) (Tree.need (List.length (numF (IntKind.wrap IntKind.u64 (IntKind.wrap IntKind.i64 (IntKind.wrap IntKind.i64 ((16 : Int) * x.1) + x.2.1))) (1 : Int)) + List.length (numF (IntKind.wrap IntKind.u64 x.2.2.1) (4 : Int)) ≤ (4611686018427387904 : Nat)) (Tree.need (List.length (numF (IntKind.wrap IntKind.u64 (IntKind.wrap IntKind.i64 (IntKind.wrap IntKind.i64 ((16 : Int) * x.1) + x.2.1))) (1 : Int) ++ numF (IntKind.wrap IntKind.u64 x.2.2.1) (4 : Int)) + List.length (numF (IntKind.wrap IntKind.u64 (bif x.2.2.2 == (-1 : Int) then (255 : Int) else x.2.2.2)) (1 : Int)) ≤ (4611686018427387904 : Nat)) (Tree.leaf (numF (IntKind.wrap IntKind.u64 (IntKind.wrap IntKind.i64 (IntKind.wrap IntKind.i64 ((16 : Int) * x.1) + x.2.1))) (1 : Int) ++ numF (IntKind.wrap IntKind.u64 x.2.2.1) (4 : Int) ++ numF (IntKind.wrap IntKind.u64 (bif x.2.2.2 == (-1 : Int) then (255 : Int) else x.2.2.2)) (1 : Int), (0 : Int)))))) := by kernel_rfl
theorem ibytes_ok : CtrOK Tryz.prog 27 ibytesC :=
  fun_ok (G := ibytesG) (Λ := []) tysOK ibytesG_ok mixed (by kernel_rfl) (by kernel_rfl) (by kernel_rfl) (by kernel_rfl) lp_nil fun (x : DItem) hw _ => by
    rw [congrFun ibytes_tree x]
    have e : ibytesC.fn x = itemF x := rfl
    rw [e]
    simp only [Tree.holds, itemF]
    refine ⟨fun h => by rw [h]; rfl, fun h => ⟨by rw [numF_len1, numF_len4]; omega, by rw [List.length_append, numF_len1, numF_len4, numF_len1]; omega, by rw [h]; rfl⟩⟩
end Go.Ev.Z
/- A strings.Builder beside the evaluator: what WriteString writes, and that it leaves all else alone. -/
set_option linter.unusedVariables false
set_option linter.unusedSimpArgs false
namespace Go.Ev
open Go.Proofs Go.Shelf Go.RowKit Go.Conc
theorem append_str_new {P : Program} (w : World) (base : Nat) (t u ty e : TypeId) (i : TypeInfo) (ht : P.underlying t = some (.slice e)) (hu : P.underlying u = some .string) (hi : P.info? e = some i) (hz : i.zero = some (.int .u8 0))
    (hsize : i.size = 1) (hby : i.bytes = 1) (v : Value) (n : Nat) (xs : List Value) (hown : w.ownsRow base e 1 v n xs) (s : ByteArray)
    (h63 : n + s.size ≤ maxLen) (hbytes : n + s.size ≤ 140737488355328) (hbase : base ≤ w.heap.size) :
    ∃ v' w', (Builtin.append_ #[t, u] ty #[v, .string s]).run P w = .ok v' w' ∧ w'.ownsRow base e 1 v' (n + s.size) (xs ++ Lib.strCells s) ∧ w.grownBy w' v.ownBlock ∧ ∀ k, v'.ownBlock = some k → v.ownBlock = some k ∨ w.heap.size ≤ k := by
  obtain ⟨v', w', r1, r2, r3, _⟩ := Lib.run_append_own_string (P := P) w base t u ty e i ht hu hi hz hsize hby v n xs hown s h63 hbytes hbase
  refine ⟨v', w', r1, r2, r3, ?_⟩
  have hxl : xs.length = n := by simpa using hown.1
  rcases hown.2 with ⟨rfl, rfl⟩ | ⟨g, cap, cur, rfl, hbg, hg, hnc, hcm, hcs, htake⟩
  · have hown' : w.ownsRow w.heap.size e 1 (.slice none 0 0) 0 xs := ⟨by simpa using hxl, .inl ⟨rfl, rfl⟩⟩
    obtain ⟨v2, w2, s1, s2, _, _⟩ := Lib.run_append_own_string (P := P) w w.heap.size t u ty e i ht hu hi hz hsize hby _ 0 xs hown' s h63 hbytes (Nat.le_refl _)
    rw [r1] at s1
    cases s1
    intro k hk
    exact .inr (s2.lt k hk).1
  · by_cases hroom : n + s.size ≤ cap
    · have hr := Lib.run_append_room_string (P := P) w t u ty e i ht hu hi hsize g n cap cur hg s hroom (by simp at hcs; omega)
      rw [r1] at hr
      cases hr
      intro k hk
      exact .inl hk
    · have holds : ∀ j u, xs[j]? = some u → w.cell? ((⟨g, 0, none⟩ : Addr).add j) = some u := hown.cells (g := g) rfl
      have hsmall : n + s.size ≤ 9223372036854775807 := by omega
      have hr := Lib.run_append_grow_string (P := P) w t u ty e i (.int .u8 0) ht hu hi hz ⟨g, 0, none⟩ n cap xs (by rw [hsize]; simpa using hxl) holds s (by omega) (by omega) (by rw [hby]; exact growslice_fits (by omega) (by omega))
      rw [r1] at hr
      cases hr
      intro k hk
      refine .inr ?_
      have : w.heap.size = k := by simpa [Value.ownBlock] using hk
      omega
theorem wpL_append_str {P : Program} {w : World} {ops : Array Oper} {rest : List Oper} {o : Oper} {a : Act} {Q : Exit → Act → World → Prop} (hgd : o.guard = none) (sl x : Operand) (t u : TypeId)
    (ho : o.op = .call { callee := .builtin .append, args := #[sl, x], argTypes := #[t, u] })
    (base : Nat) (e : TypeId) (i : TypeInfo) (ht : P.underlying t = some (.slice e)) (hu : P.underlying u = some .string) (hi : P.info? e = some i) (hz : i.zero = some (.int .u8 0))
    (hsize : i.size = 1) (hby : i.bytes = 1)
    (v : Value) (n : Nat) (xs : List Value) (hs : a.eval sl = v) (hown : w.ownsRow base e 1 v n xs) (s : ByteArray) (hx : a.eval x = .string s)
    (h63 : n + s.size ≤ maxLen) (hbytes : n + s.size ≤ 140737488355328) (hbase : base ≤ w.heap.size)
    (h : ∀ v' w', w'.ownsRow base e 1 v' (n + s.size) (xs ++ Lib.strCells s) → w.grownBy w' v.ownBlock → (∀ k, v'.ownBlock = some k → v.ownBlock = some k ∨ w.heap.size ≤ k) → wpList P ops Q rest (a.put o.dst v') w') : wpList P ops Q (o :: rest) a w := by
  refine wpList_plain hgd fun K hK => ?_
  obtain ⟨v', w', hr, h2, h3, h4⟩ := append_str_new (P := P) w base t u o.type e i ht hu hi hz hsize hby v n xs hown s h63 hbytes hbase
  unfold Oper.wp execOp
  simp only [ho, resolve, invoke, builtin, Sem.run_bind, Sem.run_pure, Result.andThen_ok, List.map_toArray, List.map_cons, List.map_nil, hs, hx, hr]
  exact hK _ _ (h v' w' h2 h3 h4)
def bufOf (w : World) (b k : Nat) : Prop := ∃ p v T, w.heap[b]? = some (.cells #[p, v] T (0, 0)) ∧ v.ownBlock = some k
variable {P : Program} {ρ : Ren}
theorem check_at (L : Lays.n240 P ρ) (X : Builder.X72 P ρ) (B b : Nat) (bs : List Value) (w : World) (h : Lib.IsBuilder (ρ.t 72) (ρ.t 5) B b bs w) :
    Calls P (ρ.f 240) #[.pointer (some ⟨b, 0, none⟩)] w fun e w' => e = .returned (.tuple #[]) ∧ (Lib.BuilderAt (ρ.t 72) (ρ.t 5) B b (.pointer (some ⟨b, 0, none⟩)) bs w' ∧ Below B w w') ∧
      w'.heap.size = w.heap.size ∧ (∀ k, k ≠ b → w'.heap[k]? = w.heap[k]?) ∧ ∀ k, bufOf w' b k → bufOf w b k := by
  rcases h with h | h
  · refine (Any.Builder_copyCheck_fresh L X b w h.cell0 h.shape h.frozen0).mono ?_
    rintro e w' ⟨rfl, rfl⟩
    refine ⟨rfl, ⟨h.used _, (Below.refl B w).setCell (p := ⟨b, 0, none⟩) h.1 _⟩, by simp [World.setCell], fun k hk => Below.heap_setCell _ _ _ _ hk, ?_⟩
    obtain ⟨hB, v, hb, hrest⟩ := h
    rintro k ⟨p, v', T, h1, h2⟩
    have : (w.setCell ⟨b, 0, none⟩ (.pointer (some ⟨b, 0, none⟩))).heap[b]? = some (.cells #[.pointer (some ⟨b, 0, none⟩), v] (ρ.t 72) (0, 0)) := by simp [World.setCell, Array.getElem?_modify, hb]
    rw [this] at h1
    simp only [Option.some.injEq, Obj.cells.injEq] at h1
    obtain ⟨h1, rfl, -⟩ := h1
    have h3 : v = v' := by
      have := congrArg (fun x : Array Value => x[1]?) h1
      simpa using this
    exact ⟨_, v, _, hb, h3 ▸ h2⟩
  · refine (Any.Builder_copyCheck_used L X b w h.cell0).mono ?_
    rintro e w' ⟨rfl, rfl⟩
    exact ⟨rfl, ⟨h, Below.refl B _⟩, rfl, fun _ _ => rfl, fun _ h => h⟩
set_option maxHeartbeats 2000000 in
set_option maxRecDepth 100000 in
theorem write_calls (L : Lays.n166 P ρ) (X : Builder.Extra P ρ) (B b : Nat) (bs : List Value) (s : ByteArray) (w : World) (h : Lib.IsBuilder (ρ.t 72) (ρ.t 5) B b bs w) (hlen : bs.length + s.size ≤ 140737488355328) (hBw : B ≤ w.heap.size) :
    Calls P (ρ.f 166) #[.pointer (some ⟨b, 0, none⟩), .string s] w fun e w' => e = .returned (.tuple #[.int .i64 s.size, .nilIface]) ∧ Lib.BuilderAt (ρ.t 72) (ρ.t 5) B b (.pointer (some ⟨b, 0, none⟩)) (bs ++ Lib.strCells s) w' ∧ Below B w w' ∧
      (∀ k, k < w.heap.size → k ≠ b → ¬ bufOf w b k → w'.heap[k]? = w.heap[k]?) ∧ ∀ k, bufOf w' b k → bufOf w b k ∨ w.heap.size ≤ k := by
  obtain ⟨i0, hi, hz0, hz1, hz2⟩ := info_parts X.infoByte
  have mixed := L.mixed
  have t72 := L.t72; have a72 := L.a72; have z72 := L.z72; have v72 := L.v72; have u72 := run_underlying L.t72
  have t70 := L.t70; have a70 := L.a70; have z70 := L.z70; have v70 := L.v70; have u70 := run_underlying L.t70
  have t37 := L.t37; have a37 := L.a37; have z37 := L.z37; have v37 := L.v37; have u37 := run_underlying L.t37
  have t3 := L.t3; have a3 := L.a3; have z3 := L.z3; have v3 := L.v3; have u3 := run_underlying L.t3
  have t9 := L.t9; have a9 := L.a9; have z9 := L.z9; have v9 := L.v9; have u9 := run_underlying L.t9
  have t4 := L.t4; have a4 := L.a4; have z4 := L.z4; have v4 := L.v4; have u4 := run_underlying L.t4
  have t164 := L.t164; have a164 := L.a164; have z164 := L.z164; have v164 := L.v164; have u164 := run_underlying L.t164
  have t5 := X.t5; have a5 := X.a5; have z5 := X.z5; have v5 := X.v5; have u5 := run_underlying X.t5
  have e240 : ∀ args w, (callFunc (ρ.f 240) args).run P w = .ok (.enter (ρ.f 240) args) w := enters_of L.f240 (by kernel_rfl) rfl
  go_enter L.f166, Body.n166_ntmps ρ
  go_wp2_with (go_at_fn (ρ.f 240); refine (check_at { L with } X.toX72 B b bs _ h).mono ?_)
  rintro e w1 ⟨rfl, ⟨h1, hb1⟩, q1, q2, q3⟩
  obtain ⟨hB, v, hbk, hown, hne⟩ := h1
  have c0 : w1.cell? ⟨b, 0, none⟩ = some (.pointer (some ⟨b, 0, none⟩)) := by rw [Lib.cell_of_heap hbk]; rfl
  have c1 : w1.cell? ⟨b, 1, none⟩ = some v := by rw [Lib.cell_of_heap hbk]; rfl
  go_wp2_with (at_builtin; refine wpL_append_str rfl _ _ (ρ.t 37) (ρ.t 9) rfl B (ρ.t 5) i0 L.t37 L.t9 hi hz0 hz1 hz2 _ _ _ rfl hown s rfl ?c3 ?c4 ?c5 ?_)
  case c3 => unfold maxLen; omega
  case c4 => omega
  case c5 => have := hb1.size; omega
  intro v' w2 hown' hgrow hnewb
  have hlt : b < w1.heap.size := by
    rcases Nat.lt_or_ge b w1.heap.size with h' | h'
    · exact h'
    · simp [Array.getElem?_eq_none h'] at hbk
  have hb2 : w2.heap[b]? = some (.cells #[.pointer (some ⟨b, 0, none⟩), v] (ρ.t 72) (0, 0)) := by
    rw [hgrow.block b hlt (fun e => hne e.symm)]
    exact hbk
  have d0 : w2.cell? ⟨b, 0, none⟩ = some (.pointer (some ⟨b, 0, none⟩)) := by rw [Lib.cell_of_heap hb2]; rfl
  have d1 : w2.cell? ⟨b, 1, none⟩ = some v := by rw [Lib.cell_of_heap hb2]; rfl
  have f1 : w2.frozen? ⟨b, 1, none⟩ = false := Lib.frozen_of_heap hb2 1
  obtain ⟨ao, n', cap, hv'⟩ : ∃ ao n' cap, v' = .slice ao n' cap := by
    rcases hown'.2 with ⟨hv, _⟩ | ⟨g, cap, cur, hv, _⟩
    · exact ⟨_, _, _, hv⟩
    · exact ⟨_, _, _, hv⟩
  subst hv'
  go_wp2
  go_ret2
  refine ⟨rfl, ?_, ?_, ?_, ?_⟩
  · exact Lib.BuilderAt.put (T := (ρ.t 72)) (e := (ρ.t 5)) hB hb2 (bs' := bs ++ Lib.strCells s) (by simpa [Lib.strCells_length] using hown') X.neB5
  · exact (hb1.grown hgrow (by have := hb1.size; omega) (fun k hk => (hown.lt k hk).1)).setCell (p := ⟨b, 1, none⟩) hB _
  · intro k hk hkb hbuf
    rw [Below.heap_setCell _ _ _ _ hkb]
    rw [hgrow.block k (by omega) (fun e => hbuf (q3 k ⟨_, v, _, hbk, e.symm⟩)), q2 k hkb]
  · rintro k ⟨p, v2, T, h1, h2⟩
    have h3 : (w2.setCell ⟨b, 1, none⟩ (.slice ao n' cap)).heap[b]? = some (.cells #[.pointer (some ⟨b, 0, none⟩), .slice ao n' cap] (ρ.t 72) (0, 0)) := by simp [World.setCell, Array.getElem?_modify, hb2]
    rw [h3] at h1
    simp only [Option.some.injEq, Obj.cells.injEq] at h1
    obtain ⟨h1, rfl, -⟩ := h1
    have h4 : Value.slice ao n' cap = v2 := by
      have := congrArg (fun x : Array Value => x[1]?) h1
      simpa using this
    subst h4
    rcases hnewb k h2 with h5 | h5
    · exact .inl (q3 k ⟨_, v, _, hbk, h5⟩)
    · exact .inr (by omega)
end Go.Ev
/- A strings.Builder beside the evaluator: made, written, and told. -/
set_option linter.unusedVariables false
set_option linter.unusedSimpArgs false
namespace Go.Ev
open Go.Proofs Go.Shelf Go.RowKit Go.Conc
structure Bd (T e : TypeId) (B : Nat) (K : Nat → Prop) (b : Nat) (l : List UInt8) (w : World) : Prop where
  kb : K b
  buf : ∀ k, bufOf w b k → K k
  is : Lib.IsBuilder T e B b (Lib.byteCells l) w
theorem bufOf.move {w w2 : World} {b k : Nat} (hb : w2.heap[b]? = w.heap[b]?) (h : bufOf w2 b k) : bufOf w b k := by
  obtain ⟨p, v, T, h1, h2⟩ := h
  exact ⟨p, v, T, by rw [← hb]; exact h1, h2⟩
theorem at_move {T e : TypeId} {B b : Nat} {p : Value} {bs : List Value} {w w2 : World} (h : Lib.BuilderAt T e B b p bs w) (hb : w2.heap[b]? = w.heap[b]?) (hg : ∀ k, bufOf w b k → w2.heap[k]? = w.heap[k]?) : Lib.BuilderAt T e B b p bs w2 := by
  obtain ⟨h1, v, h2, h3, h4⟩ := h
  refine ⟨h1, v, by rw [hb]; exact h2, ⟨h3.1, ?_⟩, h4⟩
  rcases h3.2 with h5 | ⟨g, cap, cur, rfl, h6, h7, h8⟩
  · exact .inl h5
  · exact .inr ⟨g, cap, cur, rfl, h6, by rw [hg g ⟨_, _, _, h2, rfl⟩]; exact h7, h8⟩
theorem Bd.move {T e : TypeId} {B : Nat} {K : Nat → Prop} {b : Nat} {l : List UInt8} {w w2 : World} (h : Bd T e B K b l w) (hk : ∀ k, K k → w2.heap[k]? = w.heap[k]?) : Bd T e B K b l w2 :=
  ⟨h.kb, fun k hb => h.buf k (hb.move (hk b h.kb)), h.is.elim (fun x => .inl (at_move x (hk b h.kb) fun k hb => hk k (h.buf k hb))) (fun x => .inr (at_move x (hk b h.kb) fun k hb => hk k (h.buf k hb)))⟩
section
variable {P : Program} {C : Ctx} {b : Frame} {Q : Exit → Act → World → Prop} {a : Act} {w : World} {ops : Array Oper} {l : List Nat} {R0 : Ref} {K : Nat → Prop} {W : Nat → Option Obj} {n : Nat} {sl : List (Nat × Value)} {s : St} {ρ : Ren}
theorem Kd.lt (h : Kd R0 K W n sl s a w) {k : Nat} (hk : K k) : k < w.heap.size := by
  obtain ⟨R, h1, _, h3, _⟩ := h.st
  exact Nat.lt_of_lt_of_le (h1 k hk).1 h3.grow
theorem Kd.bd {T e : TypeId} {c : Nat} {x : List UInt8} {w1 : World} (h : Kd R0 K (fun k => w1.heap[k]?) n sl s a w) (hB : Bd T e R0.w0.heap.size K c x w1) : Bd T e R0.w0.heap.size K c x w := hB.move fun k hk => h.heap hk
theorem Kd.make {T : TypeId} {i d : Nat} {o : Oper} {e : TypeId} (h : Kd R0 (fun _ => False) W n sl s a w) (ho : ops[i]? = some o) (hg : o.guard = none) (hop : o.op = .alloc T) (hdst : o.dst = some d) (hz : ∀ w, (zeroValue T).run P w = .ok (.agg #[.pointer none, .slice none 0 0]) w)
    (hl : s.look d = .undef) (hd : d < n) (hsl : ∀ p ∈ sl, p.1 ≠ d)
    (hnext : ∀ c K' a' w', Kd R0 K' (fun k => w'.heap[k]?) n ((d, .pointer (some ⟨c, 0, none⟩)) :: sl) s a' w' → Bd T e R0.w0.heap.size K' c [] w' → RegTo P b ops l Q a' w') : RegTo P b ops (i :: l) Q a w := by
  refine RegTo.value ho hg (v := .pointer (some ⟨w.heap.size, 0, none⟩)) (w' := w.alloc (.cells #[.pointer none, .slice none 0 0] T)) ?_ ?_
  · unfold execOp
    rw [hop]
    simp [Instr.alloc, hz, newVar, newRow, Value.cells]
  · have hn := heap_alloc_new w (.cells #[.pointer none, .slice none 0 0] T)
    have hgr := h.old.grow
    have h2 := h.world (K' := fun k => k = w.heap.size) (W' := fun k => (w.alloc (.cells #[.pointer none, .slice none 0 0] T)).heap[k]?) (w' := w.alloc (.cells #[.pointer none, .slice none 0 0] T)) (fun k hk => .inr (by omega)) (fun k hk => by rw [hk]; exact (Array.getElem?_eq_some_iff.1 hn).1) (fun _ _ => rfl) rfl rfl rfl (by simp) (fun k hk _ => Below.heap_alloc _ _ _ hk)
    rw [hdst]
    have hb : Lib.BuilderAt T e R0.w0.heap.size w.heap.size (.pointer none) [] (w.alloc (.cells #[.pointer none, .slice none 0 0] T)) :=
      ⟨hgr, .slice none 0 0, hn, World.ownsRow_nil _ _ _ _, by simp [Value.ownBlock]⟩
    refine hnext w.heap.size _ _ _ (h2.keep hl hd hsl) ⟨rfl, ?_, .inl hb⟩
    rintro k ⟨p, v, T', h1, h3⟩
    rw [hn] at h1
    simp only [Option.some.injEq, Obj.cells.injEq] at h1
    have h4 : Value.slice none 0 0 = v := by
      have := congrArg (fun x : Array Value => x[1]?) h1.1
      simpa using this
    subst h4
    simp [Value.ownBlock] at h3
theorem Kd.write {L : Lays.n166 P ρ} {X : Builder.Extra P ρ} {i d c p q : Nat} {o : Oper} {ts : Array TypeId} {fn : Func} {x y : List UInt8} (h : Kd R0 K W n sl s a w) (hB : Bd (ρ.t 72) (ρ.t 5) R0.w0.heap.size K c x w)
    (ho : ops[i]? = some o) (hg : o.guard = none) (hop : o.op = .call { callee := .value (.func (ρ.f 166)), args := #[.tmp p, .tmp q], argTypes := ts }) (hdst : o.dst = some d) (hf : P.funcs[ρ.f 166]? = some fn) (hb : fn.body.isNone = false) (hn : (fn.name == "runtime.NumGoroutine") = false)
    (hp : a.tmps.getD p undef = .pointer (some ⟨c, 0, none⟩)) (hq : a.tmps.getD q undef = .string ⟨⟨y⟩⟩) (hlen : x.length + y.length ≤ 140737488355328)
    (hl : s.look d = .undef) (hd : d < n) (hsl : ∀ p ∈ sl, p.1 ≠ d)
    (hnext : ∀ K' a' w', Kd R0 K' (fun k => w'.heap[k]?) n sl s a' w' → Bd (ρ.t 72) (ρ.t 5) R0.w0.heap.size K' c (x ++ y) w' → RegTo P b ops l Q a' w') : RegTo P b ops (i :: l) Q a w := by
  have hp' : a.eval (.tmp p) = .pointer (some ⟨c, 0, none⟩) := hp
  have hq' : a.eval (.tmp q) = .string ⟨⟨y⟩⟩ := hq
  have hgr := h.old.grow
  have hcall := write_calls L X R0.w0.heap.size c (Lib.byteCells x) ⟨⟨y⟩⟩ w hB.is (by rw [Lib.byteCells_length]; exact hlen) hgr
  refine h.call ho hg hop (x := .func (ρ.f 166)) (caps := #[]) rfl (args := #[.pointer (some ⟨c, 0, none⟩), .string ⟨⟨y⟩⟩]) (by simp [hp', hq']) hf hb hn hcall ?_
  rintro e w' ⟨rfl, h1, h2, h3, h4⟩
  refine ⟨_, fun k => K k ∨ bufOf w' c k, fun k => w'.heap[k]?, rfl, ?_, ?_, fun _ _ => rfl, h2.os, h2.tape, h2.output, h2.size, fun k hk hnk => h3 k hk (fun e => hnk (.inl (by rw [e]; exact hB.kb))) (fun hbf => hnk (.inl (hB.buf k hbf))), fun h5 => ?_⟩
  · rintro k (hk | hk)
    · exact .inl hk
    · exact (h4 k hk).imp (hB.buf k) id
  · rintro k (hk | hk)
    · exact Nat.lt_of_lt_of_le (h.lt hk) h2.size
    · obtain ⟨p', v, T', g1, g2⟩ := hk
      obtain ⟨_, v2, j1, j2, _⟩ := h1
      rw [j1] at g1
      simp only [Option.some.injEq, Obj.cells.injEq] at g1
      have h4 : v2 = v := by
        have := congrArg (fun x : Array Value => x[1]?) g1.1
        simpa using this
      subst h4
      exact (j2.lt k g2).2
  · rw [hdst]
    refine hnext _ _ _ ((h5.keep (k := d) hl hd hsl).less (sl' := sl) (fun p hp => by simp [hp])) ⟨.inl hB.kb, fun k hk => .inr hk, .inr ?_⟩
    rw [Lib.byteCells_append]
    exact h1
theorem S0_lt (h : IsSt R0 s a R0.w0) : ∀ b o, R0.S0 b o → b < R0.w0.heap.size := by
  obtain ⟨M, hM, _, I, _⟩ := h
  intro b o hs
  have := (I.here b o (I.old b o hs).1).2
  rw [hM] at this
  exact this
theorem empty_st (h : IsSt R0 s a w) (hS : ∀ b o, R0.S0 b o → b < R0.w0.heap.size) {w' : World} (hb : Below R0.w0.heap.size w w') (a' : Act) : IsSt R0 { tmps := [], boxes := [] } a' w' := by
  obtain ⟨M, rfl, _, I, _⟩ := h
  refine ⟨⟨w', R0.S0, fun _ => undef, []⟩, rfl, rfl, ⟨hb.os.trans I.os, hb.tape.trans I.tape, hb.output.trans I.output, Nat.le_trans I.size hb.size, fun k h1 h2 => (hb.block k h1).trans (I.frame k h1 h2), fun b o hs => ⟨hs, ?_⟩, fun b o hs => ⟨.inl hs, Nat.lt_of_lt_of_le (hS b o hs) (Nat.le_trans I.size hb.size)⟩, fun b d B hB => by simp [lk] at hB, fun b c d B d' B' _ hB => by simp [lk] at hB⟩, fun t => by simp [St.look, lk, RelV]⟩
  exact (World.cell?_of_block (hb.block b (hS b o hs))).trans (I.old b o hs).2
theorem Kd.told {L : Lays.n169 P ρ} {X : Builder.Extra P ρ} {i d c p : Nat} {o : Oper} {ts : Array TypeId} {fn : Func} {x : List UInt8} (h : Kd R0 K W n sl s a w) (hS : ∀ b o, R0.S0 b o → b < R0.w0.heap.size) (hB : Bd (ρ.t 72) (ρ.t 5) R0.w0.heap.size K c x w)
    (ho : ops[i]? = some o) (hg : o.guard = none) (hop : o.op = .call { callee := .value (.func (ρ.f 169)), args := #[.tmp p], argTypes := ts }) (hdst : o.dst = some d) (hf : P.funcs[ρ.f 169]? = some fn) (hb : fn.body.isNone = false) (hn : (fn.name == "runtime.NumGoroutine") = false)
    (hp : a.tmps.getD p undef = .pointer (some ⟨c, 0, none⟩)) (hlen : x.length ≤ maxStr) (hd : d < n)
    (hnext : ∀ a' w', Kd R0 (fun _ => False) (fun _ => none) n [] { tmps := [(d, .val .str x)], boxes := [] } a' w' → RegTo P b ops l Q a' w') : RegTo P b ops (i :: l) Q a w := by
  have hp' : a.eval (.tmp p) = .pointer (some ⟨c, 0, none⟩) := hp
  have hgr := h.old.grow
  have hcall := Any.Builder_String_any L X R0.w0.heap.size c x w hB.is hgr
  refine RegTo.yields ho hg (K := fun v w' => RegTo P b ops l Q (a.put o.dst v) w') (yields_call hop (caps := #[]) rfl hf hb hn (by simpa [hp'] using hcall) ?_) (fun v w' hv => hv)
  rintro e w' ⟨rfl, h1⟩
  refine ⟨_, rfl, ?_⟩
  rw [hdst]
  have h2 := empty_st h.old hS h1 a
  have h3 := h2.put_known (d := d) (v := .string ⟨x.toArray⟩) (av := .val .str x) (fun M => ⟨[.string ⟨⟨x⟩⟩], ⟨rfl, hlen⟩, rfl⟩) (by rw [h.size]; exact hd)
  exact hnext _ _ (Kd.start (s := { tmps := [(d, .val .str x)], boxes := [] }) h3 ((put_size _ _ _).trans h.size) ((put_defers' _ _ _).trans h.defers) (fun _ h => by cases h))
end
end Go.Ev
/- All items in bytes: the loop that writes into a builder. -/
set_option linter.unusedVariables false
set_option linter.unusedSimpArgs false
namespace Go.Ev.Z
open Go.Proofs Go.Conc
noncomputable def alB (i : Nat) : Code := rNth (bodyOf (fnOf Tryz.prog 11)) i
noncomputable def alL (i : Nat) : Code := rNth (loopB 0 (bodyOf (fnOf Tryz.prog 11))) i
noncomputable def alI (i : Nat) : Code := rNth (rIn (alL 2)) i
@[reducible] def alT0 : List (Nat × Sh) := [(0, .val (.sl gItem))]
@[reducible] def alT : List (Nat × Sh) := [(9, .val (.sl gItem)), (10, .val (.int .i64)), (11, .val (.int .i64))]
@[reducible] def alTx (t : Nat) (g : GTy) : List (Nat × Sh) := [(9, .val (.sl gItem)), (10, .val (.int .i64)), (11, .val (.int .i64)), (t, .val g)]
@[reducible] def alTr : List (Nat × Sh) := [(2, .val .str), (3, .val (.int .i64))]
def allC : Ctr := { args := [.sl gItem], res := [.str, .int .i64], pre := none, fn := fun (x : List DItem) => allF x }
def allGm : List (Nat × Ctr) := [(27, ibytesC)]
theorem al0_tree : (fun x : List DItem => pieceT (mkC tys [] []) (fnOf Tryz.prog 11) [.str, .int .i64] alT0 [] [alB 0] { tmps := number 0 (resL [.sl gItem] x), boxes := [] }) = (fun x => Tree.leaf (none, some ((x, ()), ()))) := by kernel_rfl
theorem al2_tree : (fun x : (List DItem × Unit) × Unit => pieceT (mkC tys [] []) (fnOf Tryz.prog 11) [.str, .int .i64] alT [] [alB 2] (mkS alT0 [] x)) = (fun x => Tree.leaf (none, some ((x.1.1, (↑(List.length x.1.1) : Int), (0 : Int), ()), ()))) := by kernel_rfl
theorem al3_tree : (fun x : (List DItem × Int × Int × Unit) × Unit => pieceT (mkC tys [] []) (fnOf Tryz.prog 11) [.str, .int .i64] (alTx 12 .bool) [] [alL 0] (mkS alT [] x)) = (fun x => Tree.leaf (none, some ((x.1.1, x.1.2.1, x.1.2.2.1, decide (x.1.2.2.1 < x.1.2.1), ()), ()))) := by kernel_rfl
theorem al5_tree : (fun x : (List DItem × Int × Int × Unit) × Unit => pieceT (mkC tys allGm []) (fnOf Tryz.prog 11) [.str, .int .i64] (alTx 7 .str) [] [alI 0, alI 1, alI 2, alI 3, alI 4, alI 5] (mkS alT [] x)) = (fun x => Tree.need ((0 : Int) ≤ x.1.2.2.1 ∧ x.1.2.2.1 < (↑(List.length x.1.1) : Int)) (Tree.br ((itemF (List.getD x.1.1 (Int.toNat x.1.2.2.1) ((0 : Int), (0 : Int), (0 : Int), (0 : Int)))).2 != (0 : Int)) (Tree.leaf (some ([], (itemF (List.getD x.1.1 (Int.toNat x.1.2.2.1) ((0 : Int), (0 : Int), (0 : Int), (0 : Int)))).2), none)) (Tree.br (decide (x.1.2.2.1 ≥ (48 : Int))) (Tree.leaf (some ([], (4 : Int)), none)) (Tree.leaf (none, some ((x.1.1, x.1.2.1, x.1.2.2.1, (itemF (List.getD x.1.1 (Int.toNat x.1.2.2.1) ((0 : Int), (0 : Int), (0 : Int), (0 : Int)))).1, ()), ())))))) := by kernel_rfl
theorem al6_tree : (fun x : (List DItem × Int × Int × List UInt8 × Unit) × Unit => opsT (mkC tys [] []) (alTx 26 .str) [] [rOp (alI 6) 0] (mkS (alTx 7 .str) [] x)) = (fun x => Tree.leaf (some ((x.1.1, x.1.2.1, x.1.2.2.1, x.1.2.2.2.1, ()), ()))) := by kernel_rfl
theorem al7_tree : (fun x : (List DItem × Int × Int × Unit) × Unit => pieceT (mkC tys [] []) (fnOf Tryz.prog 11) [.str, .int .i64] alT [] [alL 3] (mkS alT [] x)) = (fun x => Tree.leaf (none, some ((x.1.1, x.1.2.1, IntKind.wrap IntKind.i64 (x.1.2.2.1 + (1 : Int)), ()), ()))) := by kernel_rfl
theorem al8_tree : (fun x : List UInt8 => opsT (mkC tys [] []) alTr [] [rOp (alB 4) 1, rOp (alB 4) 2] { tmps := [(29, .val .str x)], boxes := [] }) = (fun x => Tree.leaf (some ((x, (0 : Int), ()), ()))) := by kernel_rfl
end Go.Ev.Z
/- All items in bytes keep their contract. -/
set_option linter.unusedVariables false
set_option linter.unusedSimpArgs false
namespace Go.Ev.Z
open Go.Proofs Go.Conc
theorem al_all : seqs (bodyOf (fnOf Tryz.prog 11)) = [alB 0, alB 1, alB 2, alB 3, alB 4, alB 5] := by kernel_rfl
theorem al_1 : alB 1 = .region 1 (rOps (alB 1)) false := by kernel_rfl
theorem al_3 : alB 3 = .block 0 (.loop (loopB 0 (bodyOf (fnOf Tryz.prog 11)))) := by kernel_rfl
theorem al_4 : alB 4 = .region 12 (rOps (alB 4)) false := by kernel_rfl
theorem al_5 : alB 5 = .ret := by kernel_rfl
theorem al_loop : seqs (loopB 0 (bodyOf (fnOf Tryz.prog 11))) = [alL 0, alL 1, alL 2, alL 3] := by kernel_rfl
theorem al_l1 : alL 1 = .cond (.tmp 12) .skip (.exit 0) := by kernel_rfl
theorem al_l2 : alL 2 = .block 1 (rIn (alL 2)) := by kernel_rfl
theorem al_in : seqs (rIn (alL 2)) = [alI 0, alI 1, alI 2, alI 3, alI 4, alI 5, alI 6] := by kernel_rfl
theorem al_i6 : alI 6 = .region 10 (rOps (alI 6)) false := by kernel_rfl
theorem al_n : (fnOf Tryz.prog 11).ntmps = 30 := by kernel_rfl
theorem wr_body : (fnOf Tryz.prog 28).body.isNone = false := by kernel_rfl
theorem wr_name : ((fnOf Tryz.prog 28).name == "runtime.NumGoroutine") = false := by kernel_rfl
theorem wr_fn : Tryz.prog.funcs[28]? = some (fnOf Tryz.prog 28) := fnOf_eq (by kernel_rfl)
theorem st_body : (fnOf Tryz.prog 29).body.isNone = false := by kernel_rfl
theorem st_name : ((fnOf Tryz.prog 29).name == "runtime.NumGoroutine") = false := by kernel_rfl
theorem st_fn : Tryz.prog.funcs[29]? = some (fnOf Tryz.prog 29) := fnOf_eq (by kernel_rfl)
theorem allGm_ok : CtrsOK Tryz.prog (fun f => lk f allGm) := ctrs_cons ibytes_ok ctrs_nil
attribute [local irreducible] fnOf bodyOf
def alI0 (R0 : Ref) (c : Nat) (l : List DItem) (m : Nat) (a : Act) (w : World) : Prop :=
  ∃ (i : Int) (out : List UInt8), 0 ≤ i ∧ i ≤ l.length ∧ i ≤ 48 ∧ (out.length : Int) ≤ 6 * i ∧ (m : Int) = l.length - i ∧ allG out i.toNat (l.drop i.toNat) = allF l ∧
    ∃ K w1, Kd R0 K (fun k => w1.heap[k]?) 30 [(4, .pointer (some ⟨c, 0, none⟩))] (mkS alT [] ((l, (l.length : Int), i, ()), ())) a w ∧ Bd 87 5 R0.w0.heap.size K c out w1
section
variable {R0 : Ref} {b : Frame} {c : Nat} {a : Act} {w : World}
theorem al_round {Q : Exit → Act → World → Prop} {l : List DItem} (hl : l.length ≤ 4611686018427387904) {m : Nat} (h : alI0 R0 c l m a w)
    (hret : ∀ s' a' w', IsSt R0 s' a' w' → a'.defers = [] → (evRes (mkC tys allGm []) (fnOf Tryz.prog 11) [.str, .int .i64] (.normal, s')).holds (fun z => z = allF l) → Q .ret a' w')
    (hend : ∀ a' w' K w1, Kd R0 K (fun k => w1.heap[k]?) 30 [(4, .pointer (some ⟨c, 0, none⟩))] (mkS alT [] ((l, (l.length : Int), (l.length : Int), ()), ())) a' w' → Bd 87 5 R0.w0.heap.size K c (allF l).1 w1 → (allF l).2 = 0 → Q (.exit 0) a' w') :
    CodeTo Tryz.prog b (loopB 0 (bodyOf (fnOf Tryz.prog 11))) (Exit.then (fun a' w' => ∃ m', m' < m ∧ alI0 R0 c l m' a' w') Q) a w := by
  obtain ⟨i, out, h0, h1, h48, h6, h2, h7, K, w1, h3, h4⟩ := h
  refine CodeTo.seqs ?_
  rw [al_loop]
  show LTo Tryz.prog b ([alL 0] ++ [alL 1, alL 2, alL 3]) _ a w
  refine h3.piece (C := mkC tys [] []) tysOK ctrs_nil mixed (fn := fnOf Tryz.prog 11) (res := [.str, .int .i64]) (ts := alTx 12 .bool) (bs := []) (G := fun x => x = (none, some ((l, (l.length : Int), i, decide (i < l.length), ()), ()))) (by kernel_rfl) (by kernel_rfl) ?_ ?_ ?_ ?_
  · rw [congrFun al3_tree _]; rfl
  · intro y s' a' w' hy; cases hy
  · intro x a1 w2 hx k1
    simp only [Prod.mk.injEq, Option.some.injEq, true_and] at hx
    subst hx
    refine LTo.cons ?_
    rw [al_l1]
    refine CodeTo.cond (t := decide (i < l.length)) (k1.old.bool rfl) ?_
    have k2 := k1.restr (L := { prom := [], keep := alT.map (·.1), boxes := [], sum := fun _ => .stuck }) (s' := mkS alT [] ((l, (l.length : Int), i, ()), ())) (by kernel_rfl)
    cases hlt : decide (i < l.length) with
    | false =>
      have : ¬ i < l.length := by simpa using hlt
      have hi : i = l.length := by omega
      subst hi
      rw [if_neg (by simp)]
      refine CodeTo.exit ?_
      have h8 : allF l = (out, 0) := by
        rw [← h7]
        have : l.drop (l.length : Int).toNat = [] := List.drop_eq_nil_of_le (by omega)
        rw [this]; rfl
      refine hend _ _ K w1 k2 (by rw [h8]; exact h4) (by rw [h8])
    | true =>
      have hlt' : i < l.length := by simpa using hlt
      rw [if_pos rfl]
      refine CodeTo.skip ?_
      refine LTo.cons ?_
      rw [al_l2]
      refine CodeTo.block ?_
      refine CodeTo.seqs ?_
      rw [al_in]
      rw [drop_item h0 hlt'] at h7
      show LTo Tryz.prog b ([alI 0, alI 1, alI 2, alI 3, alI 4, alI 5] ++ [alI 6]) _ a1 w2
      refine k2.piece (C := mkC tys allGm []) tysOK allGm_ok mixed (fn := fnOf Tryz.prog 11) (res := [.str, .int .i64]) (ts := alTx 7 .str) (bs := []) (G := fun x => x = (some (allF l), none) ∨ x = (none, some ((l, (l.length : Int), i, (itemF (l.getD i.toNat (0, 0, 0, 0))).1, ()), ())) ∧ i < 48 ∧ allG (out ++ (itemF (l.getD i.toNat (0, 0, 0, 0))).1) (i + 1).toNat (l.drop (i + 1).toNat) = allF l) (by kernel_rfl) (by kernel_rfl) ?_ ?_ ?_ ?_
      · rw [congrFun al5_tree _]
        simp only [Tree.holds]
        generalize l.getD i.toNat (0, 0, 0, 0) = x at h7 ⊢
        simp only [allG] at h7
        refine ⟨⟨h0, hlt'⟩, fun g => ?_, fun g => ⟨fun g2 => ?_, fun g2 => ?_⟩⟩
        · rw [g] at h7
          exact .inl (by rw [← h7]; rfl)
        · have e : decide (((i.toNat : Nat) : Int) ≥ 48) = true := by have := of_decide_eq_true g2; simp; omega
          rw [g, e] at h7
          exact .inl (by rw [← h7]; rfl)
        · have e2 : ¬ i ≥ 48 := of_decide_eq_false g2
          have e : decide (((i.toNat : Nat) : Int) ≥ 48) = false := by simp; omega
          rw [g, e] at h7
          refine .inr ⟨trivial, by omega, ?_⟩
          rw [show (i + 1).toNat = i.toNat + 1 by omega] at h7 ⊢
          exact h7
      · intro y s' a' w' hy j1 j2 j3
        rcases hy with hy | ⟨hy, _⟩
        · simp only [Prod.mk.injEq, Option.some.injEq, and_true] at hy
          rw [hy] at j3
          exact hret s' a' w' j1 j2 j3
        · cases hy
      · intro x a2 w3 hx k3
        rcases hx with hx | ⟨hx, hi48, h8⟩
        · cases hx
        simp only [Prod.mk.injEq, Option.some.injEq, true_and] at hx
        subst hx
        have hlen := itemF_len (l.getD i.toNat (0, 0, 0, 0))
        generalize (itemF (l.getD i.toNat (0, 0, 0, 0))).1 = y at k3 h8 hlen
        refine LTo.cons ?_
        rw [al_i6]
        refine CodeTo.region ?_
        rw [show List.range (rOps (alI 6)).size = [0, 1] by kernel_rfl]
        show RegTo Tryz.prog b _ ([0] ++ [1]) _ _ _
        refine k3.opsL (C := mkC tys [] []) tysOK ctrs_nil (ts := alTx 26 .str) (bs := []) (G := fun x => x = some ((l, (l.length : Int), i, y, ()), ())) [0] (by kernel_rfl) (by kernel_rfl) ?_ ?_ (fun h => by cases h)
        · have := congrFun al6_tree ((l, (l.length : Int), i, y, ()), ())
          show (opsT (mkC tys [] []) (alTx 26 .str) [] [rOp (alI 6) 0] (mkS (alTx 7 .str) [] ((l, (l.length : Int), i, y, ()), ()))).holds _
          rw [this]; rfl
        · intro x a3 w4 hx k4
          simp only [Option.some.injEq] at hx
          subst hx
          have h26 : a3.tmps.getD 26 undef = .string ⟨⟨y⟩⟩ := by
            obtain ⟨M, _, _, _, hr⟩ := k4.old
            obtain ⟨cs, j1, j2⟩ := hr 26
            have j3 : cs = [.string ⟨⟨y⟩⟩] := j1.1
            subst j3
            exact j2
          refine k4.write (L := { Tryz.lays156 with }) (X := Tryz.Builder_Extra_156) (o := rOp (alI 6) 1) (ts := #[87, 9]) (d := 27) (p := 4) (q := 26) (k4.bd h4) (by kernel_rfl) (by kernel_rfl) (by kernel_rfl) (by kernel_rfl) wr_fn wr_body wr_name (k4.slots (4, .pointer (some ⟨c, 0, none⟩)) (by simp)) h26 (by omega) rfl (by omega) (by simp) fun K2 a4 w5 k5 h5 => ?_
          refine RegTo.nil ?_
          have k6 := k5.restr (L := { prom := [], keep := alT.map (·.1), boxes := [], sum := fun _ => .stuck }) (s' := mkS alT [] ((l, (l.length : Int), i, ()), ())) (by kernel_rfl)
          show LTo Tryz.prog b ([alL 3] ++ []) _ a4 w5
          refine k6.piece (C := mkC tys [] []) tysOK ctrs_nil mixed (fn := fnOf Tryz.prog 11) (res := [.str, .int .i64]) (ts := alT) (bs := []) (G := fun x => x = (none, some ((l, (l.length : Int), IntKind.i64.wrap (i + 1), ()), ()))) (by kernel_rfl) (by kernel_rfl) ?_ ?_ ?_ ?_
          · rw [congrFun al7_tree _]; rfl
          · intro y s' a' w' hy; cases hy
          · intro x a5 w6 hx k7
            simp only [Prod.mk.injEq, Option.some.injEq, true_and] at hx
            subst hx
            rw [show IntKind.i64.wrap (i + 1) = i + 1 from i64_id (by omega) (by omega)] at k7
            exact ⟨m - 1, by omega, i + 1, out ++ y, by omega, by omega, by omega, by rw [List.length_append]; omega, by omega, h8, K2, w5, k7, h5⟩
          · intro h; cases h
      · rintro (h | ⟨h, _⟩) <;> cases h
  · intro h; cases h
end
theorem all_ok : CtrOK Tryz.prog 11 allC :=
  ctr_of_to (C := mkC tys allGm []) tysOK (by kernel_rfl) (by kernel_rfl) (by kernel_rfl) (fun x => by rw [al_n]; show 1 ≤ 30; omega) fun R0 b (l : List DItem) a0 hbk hw _ h0 hsz0 hd0 => by
    rw [al_n] at hsz0
    have hS := S0_lt h0
    have hl : l.length ≤ 4611686018427387904 := by
      have : l.length ≤ 140737488355328 := hw.1
      omega
    rw [al_all]
    have k0 := Kd.start (W := fun _ => none) (n := 30) (sl := []) h0 hsz0 hd0 (fun _ h => by cases h)
    show LTo Tryz.prog b ([alB 0] ++ [alB 1, alB 2, alB 3, alB 4, alB 5]) _ a0 R0.w0
    refine k0.piece (C := mkC tys [] []) tysOK ctrs_nil mixed (fn := fnOf Tryz.prog 11) (res := [.str, .int .i64]) (ts := alT0) (bs := []) (G := fun x => x = (none, some ((l, ()), ()))) (by kernel_rfl) (by kernel_rfl) ?_ ?_ ?_ ?_
    · show (pieceT (mkC tys [] []) (fnOf Tryz.prog 11) [.str, .int .i64] alT0 [] [alB 0] { tmps := number 0 (resL [.sl gItem] l), boxes := [] }).holds _
      rw [congrFun al0_tree l]; rfl
    · intro y s' a' w' hy; cases hy
    · intro x a1 w1 hx k1
      simp only [Prod.mk.injEq, Option.some.injEq, true_and] at hx
      subst hx
      refine LTo.cons ?_
      rw [al_1]
      refine CodeTo.region ?_
      rw [show List.range (rOps (alB 1)).size = [0] by kernel_rfl]
      refine k1.make (T := 87) (e := 5) (o := rOp (alB 1) 0) (d := 4) (by kernel_rfl) (by kernel_rfl) (by kernel_rfl) (by kernel_rfl) Tryz.lays156.v72 rfl (by omega) (by simp) fun c K a2 w2 k2 h2 => ?_
      refine RegTo.nil ?_
      show LTo Tryz.prog b ([alB 2] ++ [alB 3, alB 4, alB 5]) _ a2 w2
      refine k2.piece (C := mkC tys [] []) tysOK ctrs_nil mixed (fn := fnOf Tryz.prog 11) (res := [.str, .int .i64]) (ts := alT) (bs := []) (G := fun x => x = (none, some ((l, (l.length : Int), 0, ()), ()))) (by kernel_rfl) (by kernel_rfl) ?_ ?_ ?_ ?_
      · rw [congrFun al2_tree _]; rfl
      · intro y s' a' w' hy; cases hy
      · intro x a3 w3 hx k3
        simp only [Prod.mk.injEq, Option.some.injEq, true_and] at hx
        subst hx
        refine LTo.cons ?_
        rw [al_3]
        refine CodeTo.block ?_
        refine CodeTo.loop (alI0 R0 c l) l.length ⟨0, [], by omega, by omega, by omega, by simp, by omega, rfl, K, w2, k3, h2⟩ fun m a' w' hI => al_round hl hI (fun s' a' w' j1 j2 j3 => ⟨.inr rfl, j2, s', j1, j3⟩) fun a4 w4 K4 w5 k4 h4 he => ?_
        show LTo Tryz.prog b [alB 4, alB 5] _ a4 w4
        refine LTo.cons ?_
        rw [al_4]
        refine CodeTo.region ?_
        rw [show List.range (rOps (alB 4)).size = [0, 1, 2] by kernel_rfl]
        have hlen := allF_len l
        refine k4.told (L := { Tryz.lays156 with }) (X := Tryz.Builder_Extra_156) hS (k4.bd h4) (o := rOp (alB 4) 0) (ts := #[87]) (d := 29) (p := 4) (by kernel_rfl) (by kernel_rfl) (by kernel_rfl) (by kernel_rfl) st_fn st_body st_name (k4.slots (4, .pointer (some ⟨c, 0, none⟩)) (by simp)) (by unfold maxStr; omega) (by omega) fun a5 w6 k5 => ?_
        show RegTo Tryz.prog b _ ([1, 2] ++ []) _ _ _
        refine k5.opsL (C := mkC tys [] []) tysOK ctrs_nil (ts := alTr) (bs := []) (G := fun x => x = some (((allF l).1, 0, ()), ())) [1, 2] (by kernel_rfl) (by kernel_rfl) ?_ ?_ (fun h => by cases h)
        · have := congrFun al8_tree (allF l).1
          show (opsT (mkC tys [] []) alTr [] [rOp (alB 4) 1, rOp (alB 4) 2] { tmps := [(29, .val .str (allF l).1)], boxes := [] }).holds _
          rw [this]; rfl
        · intro x a6 w7 hx k6
          simp only [Option.some.injEq] at hx
          subst hx
          refine RegTo.nil ?_
          refine LTo.cons ?_
          rw [al_5]
          refine then_id (CodeTo.of_wp (wp_ret ?_))
          refine ⟨.inr rfl, k6.defers, _, k6.old, ?_⟩
          have : evRes (mkC tys allGm []) (fnOf Tryz.prog 11) allC.res (.normal, mkS alTr [] (((allF l).1, (0 : Int), ()), ())) = .leaf ((allF l).1, (0 : Int)) := by kernel_rfl
          rw [this]
          show ((allF l).1, (0 : Int)) = allF l
          rw [← he]
      · intro h; cases h
    · intro h; cases h
end Go.Ev.Z
/- Parts in bytes. -/
set_option linter.unusedVariables false
set_option linter.unusedSimpArgs false
namespace Go.Ev.Z
open Go.Proofs
def pbodyC : Ctr := { args := [.sl gItem], res := [.str, .bool], pre := none, fn := fun (x : List DItem) => bodyF x }
def pbodyG : List (Nat × Ctr) := [(11, allC)]
theorem pbody_tree : (fun x : List DItem => evFn (mkC tys pbodyG []) (fnOf Tryz.prog 95) (resL pbodyC.args x) pbodyC.res) = (fun x => Tree.leaf ((allF x).1, bif (allF x).2 == (0 : Int) then decide ((↑(List.length (allF x).1) : Int) ≤ (40 : Int)) else false)) := by kernel_rfl
theorem pbody_ok : CtrOK Tryz.prog 95 pbodyC :=
  fun_ok (G := pbodyG) (Λ := []) tysOK (ctrs_cons all_ok ctrs_nil) mixed (by kernel_rfl) (by kernel_rfl) (by kernel_rfl) (by kernel_rfl) lp_nil fun (x : List DItem) hw _ => by
    rw [congrFun pbody_tree x]
    exact holds_val (d := pbodyC.fn x) (by kernel_rfl) (by simp [Tree.safe])
def pokG : List (Nat × Ctr) := [(95, pbodyC), (58, rightC)]
theorem pokG_ok : CtrsOK Tryz.prog (fun f => lk f pokG) := (ctrs_cons pbody_ok (ctrs_cons right_ok ctrs_nil))
def pokC : Ctr := { args := [gPart], res := [.bool], pre := none, fn := fun (x : DPart) => pokF x }
theorem pok_tree : (fun x : DPart => evFn (mkC tys pokG []) (fnOf Tryz.prog 82) (resL pokC.args x) pokC.res) = (fun x => Tree.leaf (bif bif bif (bodyF x.2.2.2.2).2 then rightF x.1 else false then decide (x.2.2.1 ≥ (0 : Int)) else false then decide (x.2.2.1 ≤ (65535 : Int)) else false)) := by kernel_rfl
theorem pok_ok : CtrOK Tryz.prog 82 pokC :=
  fun_ok (G := pokG) (Λ := []) tysOK pokG_ok mixed (by kernel_rfl) (by kernel_rfl) (by kernel_rfl) (by kernel_rfl) lp_nil fun (x : DPart) hw _ => by
    rw [congrFun pok_tree x]
    exact holds_val (d := pokC.fn x) (by kernel_rfl) (by simp [Tree.safe])
def pbytesG : List (Nat × Ctr) := [(95, pbodyC), (82, pokC), (53, numC), (96, bytesC)]
theorem pbytesG_ok : CtrsOK Tryz.prog (fun f => lk f pbytesG) := (ctrs_cons pbody_ok (ctrs_cons pok_ok (ctrs_cons num_ok (ctrs_cons bytes_ok ctrs_nil))))
def pbytesC : Ctr := { args := [gPart], res := [.str, .int .i64], pre := none, fn := fun (x : DPart) => partF x }
theorem pbytes_tree : (fun x : DPart => evFn (mkC tys pbytesG []) (fnOf Tryz.prog 77) (resL pbytesC.args x) pbytesC.res) = (fun x => Tree.br (!pokF x) (Tree.leaf ([], (1 : Int))) (Tree.need (List.length (numF (IntKind.wrap IntKind.u64 x.1) (1 : Int)) + List.length (pairB x.2.1) ≤ (4611686018427387904 : Nat)) (Tree.need (List.length (numF (IntKind.wrap IntKind.u64 x.1) (1 : Int) ++ pairB x.2.1) + List.length (numF (IntKind.wrap IntKind.u64 x.2.2.1) (2 : Int)) ≤ (4611686018427387904 : Nat)) (Tree.need (List.length (numF (IntKind.wrap IntKind.u64 x.1) (1 : Int) ++ pairB x.2.1 ++ numF (IntKind.wrap IntKind.u64 x.2.2.1) (2 : Int)) + List.length (numF (bif x.2.2.2.1 then (1 : Int) else (0 : Int)) (1 : Int)) ≤ (4611686018427387904 : Nat)) (Tree.need (List.length (numF (IntKind.wrap IntKind.u64 x.1) (1 : Int) ++ pairB x.2.1 ++ numF (IntKind.wrap IntKind.u64 x.2.2.1) (2 : Int) ++ numF (bif x.2.2.2.1 then (1 : Int) else (0 : Int)) (1 : Int)) + List.length (bodyF x.2.2.2.2).1 ≤ (4611686018427387904 : Nat)) (Tree.leaf (numF (IntKind.wrap IntKind.u64 x.1) (1 : Int) ++ pairB x.2.1 ++ numF (IntKind.wrap IntKind.u64 x.2.2.1) (2 : Int) ++ numF (bif x.2.2.2.1 then (1 : Int) else (0 : Int)) (1 : Int) ++ (bodyF x.2.2.2.2).1, (0 : Int)))))))) := by kernel_rfl
theorem pbytes_ok : CtrOK Tryz.prog 77 pbytesC :=
  fun_ok (G := pbytesG) (Λ := []) tysOK pbytesG_ok mixed (by kernel_rfl) (by kernel_rfl) (by kernel_rfl) (by kernel_rfl) lp_nil fun (x : DPart) hw _ => by
    rw [congrFun pbytes_tree x]
    have e : pbytesC.fn x = partF x := rfl
    have hb := bodyF_len x.2.2.2.2
    rw [e]
    simp only [Tree.holds, partF]
    refine ⟨fun h => by rw [h]; rfl, fun h => ⟨?_, ?_, ?_, ?_, by rw [h]; rfl⟩⟩
    all_goals simp only [List.length_append, numF_len1, numF_len2, pairB_len]
    all_goals omega
def wrappedC : Ctr := { args := [.int .i64, .str, .int .i64], res := [.str, .int .i64], pre := none, fn := fun (x : Int × List UInt8 × Int) => wrappedF x.1 x.2.1 x.2.2 }
def wrappedG : List (Nat × Ctr) := [(97, fwrapC)]
theorem wrapped_tree : (fun x : Int × List UInt8 × Int => evFn (mkC tys wrappedG []) (fnOf Tryz.prog 78) (resL wrappedC.args x) wrappedC.res) = (fun x => Tree.br (x.2.2 != (0 : Int)) (Tree.leaf ([], x.2.2)) (Tree.leaf ((wrapF x.1 x.2.1).1, (wrapF x.1 x.2.1).2))) := by kernel_rfl
theorem wrapped_ok : CtrOK Tryz.prog 78 wrappedC :=
  fun_ok (G := wrappedG) (Λ := []) tysOK (ctrs_cons fwrap_ok ctrs_nil) mixed (by kernel_rfl) (by kernel_rfl) (by kernel_rfl) (by kernel_rfl) lp_nil fun (x : Int × List UInt8 × Int) hw _ => by
    rw [congrFun wrapped_tree x]
    exact holds_val (d := wrappedC.fn x) (by kernel_rfl) (by simp [Tree.safe])
def fpartC : Ctr := { args := [gPart], res := [.str, .int .i64], pre := none, fn := fun (x : DPart) => fpartF x }
def fpartG : List (Nat × Ctr) := [(77, pbytesC), (78, wrappedC)]
theorem fpart_tree : (fun x : DPart => evFn (mkC tys fpartG []) (fnOf Tryz.prog 50) (resL fpartC.args x) fpartC.res) = (fun x => Tree.leaf ((wrappedF (2 : Int) (partF x).1 (partF x).2).1, (wrappedF (2 : Int) (partF x).1 (partF x).2).2)) := by kernel_rfl
theorem fpart_ok : CtrOK Tryz.prog 50 fpartC :=
  fun_ok (G := fpartG) (Λ := []) tysOK (ctrs_cons pbytes_ok (ctrs_cons wrapped_ok ctrs_nil)) mixed (by kernel_rfl) (by kernel_rfl) (by kernel_rfl) (by kernel_rfl) lp_nil fun (x : DPart) hw _ => by
    rw [congrFun fpart_tree x]
    exact holds_val (d := fpartC.fn x) (by kernel_rfl) (by simp [Tree.safe])
end Go.Ev.Z
/- What is said of frames answers true. -/
set_option linter.unusedVariables false
set_option linter.unusedSimpArgs false
namespace Go.Ev.Z
open Go.Proofs
end Go.Ev.Z
/- What is said in frames, kind by kind. -/
set_option linter.unusedVariables false
set_option linter.unusedSimpArgs false
namespace Go.Ev.Z
open Go.Proofs
def hokC : Ctr := { args := [gHello], res := [.bool], pre := none, fn := fun (x : DHello) => hokF x }
def hokG : List (Nat × Ctr) := [(58, rightC), (4, noneC)]
theorem hok_tree : (fun x : DHello => evFn (mkC tys hokG []) (fnOf Tryz.prog 71) (resL hokC.args x) hokC.res) = (fun x => Tree.leaf (bif rightF x.1 then !noneF x.2.1 else false)) := by kernel_rfl
theorem hok_ok : CtrOK Tryz.prog 71 hokC :=
  fun_ok (G := hokG) (Λ := []) tysOK (ctrs_cons right_ok (ctrs_cons none_ok ctrs_nil)) mixed (by kernel_rfl) (by kernel_rfl) (by kernel_rfl) (by kernel_rfl) lp_nil fun (x : DHello) hw _ => by
    rw [congrFun hok_tree x]
    exact holds_val (d := hokC.fn x) (by kernel_rfl) (by simp [Tree.safe])
def nearC : Ctr := { args := [.int .i64], res := [.bool], pre := none, fn := fun (x : Int) => nearF x }
def nearG : List (Nat × Ctr) := []
theorem near_tree : (fun x : Int => evFn (mkC tys nearG []) (fnOf Tryz.prog 107) (resL nearC.args x) nearC.res) = (fun x => Tree.leaf (bif decide (x ≥ (0 : Int)) then decide (x ≤ (65535 : Int)) else false)) := by kernel_rfl
theorem near_ok : CtrOK Tryz.prog 107 nearC :=
  fun_ok (G := nearG) (Λ := []) tysOK ctrs_nil mixed (by kernel_rfl) (by kernel_rfl) (by kernel_rfl) (by kernel_rfl) lp_nil fun (x : Int) hw _ => by
    rw [congrFun near_tree x]
    exact holds_val (d := nearC.fn x) (by kernel_rfl) (by simp [Tree.safe])
def aokC : Ctr := { args := [gAck], res := [.bool], pre := none, fn := fun (x : DAck) => aokF x }
def aokG : List (Nat × Ctr) := [(58, rightC), (107, nearC)]
theorem aok_tree : (fun x : DAck => evFn (mkC tys aokG []) (fnOf Tryz.prog 103) (resL aokC.args x) aokC.res) = (fun x => Tree.leaf (bif bif bif rightF x.1 then nearF x.2.2.1 else false then decide (x.2.2.2 ≥ (0 : Int)) else false then decide (x.2.2.2 ≤ (255 : Int)) else false)) := by kernel_rfl
theorem aok_ok : CtrOK Tryz.prog 103 aokC :=
  fun_ok (G := aokG) (Λ := []) tysOK (ctrs_cons right_ok (ctrs_cons near_ok ctrs_nil)) mixed (by kernel_rfl) (by kernel_rfl) (by kernel_rfl) (by kernel_rfl) lp_nil fun (x : DAck) hw _ => by
    rw [congrFun aok_tree x]
    exact holds_val (d := aokC.fn x) (by kernel_rfl) (by simp [Tree.safe])
def abytesG : List (Nat × Ctr) := [(103, aokC), (53, numC), (96, bytesC)]
theorem abytesG_ok : CtrsOK Tryz.prog (fun f => lk f abytesG) := (ctrs_cons aok_ok (ctrs_cons num_ok (ctrs_cons bytes_ok ctrs_nil)))
def abytesC : Ctr := { args := [gAck], res := [.str, .int .i64], pre := none, fn := fun (x : DAck) => ackF x }
theorem abytes_tree : (fun x : DAck => evFn (mkC tys abytesG []) (fnOf Tryz.prog 90) (resL abytesC.args x) abytesC.res) = (fun x => Tree.br (!aokF x) (Tree.leaf ([], (1 : Int))) (Tree.need (List.length (numF (IntKind.wrap IntKind.u64 x.1) (1 : Int)) + List.length (pairB x.2.1) ≤ (4611686018427387904 : Nat)) (Tree.need (List.length (numF (IntKind.wrap IntKind.u64 x.1) (1 : Int) ++ pairB x.2.1) + List.length (numF (IntKind.wrap IntKind.u64 x.2.2.1) (2 : Int)) ≤ (4611686018427387904 : Nat)) (Tree.need (List.length (numF (IntKind.wrap IntKind.u64 x.1) (1 : Int) ++ pairB x.2.1 ++ numF (IntKind.wrap IntKind.u64 x.2.2.1) (2 : Int)) + List.length (numF (IntKind.wrap IntKind.u64 x.2.2.2) (1 : Int)) ≤ (4611686018427387904 : Nat)) (Tree.leaf (numF (IntKind.wrap IntKind.u64 x.1) (1 : Int) ++ pairB x.2.1 ++ numF (IntKind.wrap IntKind.u64 x.2.2.1) (2 : Int) ++ numF (IntKind.wrap IntKind.u64 x.2.2.2) (1 : Int), (0 : Int))))))) := by kernel_rfl
theorem abytes_ok : CtrOK Tryz.prog 90 abytesC :=
  fun_ok (G := abytesG) (Λ := []) tysOK abytesG_ok mixed (by kernel_rfl) (by kernel_rfl) (by kernel_rfl) (by kernel_rfl) lp_nil fun (x : DAck) hw _ => by
    rw [congrFun abytes_tree x]
    have e : abytesC.fn x = ackF x := rfl
    rw [e]
    simp only [Tree.holds, ackF, ackB, List.length_append, numF_len1, numF_len2, pairB_len]
    exact ⟨fun h => by rw [h]; rfl, fun h => ⟨by omega, by omega, by omega, by rw [h]; rfl⟩⟩
def fackC : Ctr := { args := [gAck], res := [.str, .int .i64], pre := none, fn := fun (x : DAck) => (wrappedF 3 (ackF x).1 (ackF x).2) }
def fackG : List (Nat × Ctr) := [(90, abytesC), (78, wrappedC)]
theorem fack_tree : (fun x : DAck => evFn (mkC tys fackG []) (fnOf Tryz.prog 64) (resL fackC.args x) fackC.res) = (fun x => Tree.leaf ((wrappedF (3 : Int) (ackF x).1 (ackF x).2).1, (wrappedF (3 : Int) (ackF x).1 (ackF x).2).2)) := by kernel_rfl
theorem fack_ok : CtrOK Tryz.prog 64 fackC :=
  fun_ok (G := fackG) (Λ := []) tysOK (ctrs_cons abytes_ok (ctrs_cons wrapped_ok ctrs_nil)) mixed (by kernel_rfl) (by kernel_rfl) (by kernel_rfl) (by kernel_rfl) lp_nil fun (x : DAck) hw _ => by
    rw [congrFun fack_tree x]
    exact holds_val (d := fackC.fn x) (by kernel_rfl) (by simp [Tree.safe])
end Go.Ev.Z
/- Frames of parcels, and a parcel read. -/
set_option linter.unusedVariables false
set_option linter.unusedSimpArgs false
namespace Go.Ev.Z
open Go.Proofs
def prestC : Ctr := { args := [.str], res := [.int .i64], pre := none, fn := fun (x : List UInt8) => (bif decide ((x.length : Int) > 0) then (3 : Int) else 0) }
def prestG : List (Nat × Ctr) := []
theorem prest_tree : (fun x : List UInt8 => evFn (mkC tys prestG []) (fnOf Tryz.prog 72) (resL prestC.args x) prestC.res) = (fun x => Tree.br (decide ((↑(List.length x) : Int) > (0 : Int))) (Tree.leaf (3 : Int)) (Tree.leaf (0 : Int))) := by kernel_rfl
theorem prest_ok : CtrOK Tryz.prog 72 prestC :=
  fun_ok (G := prestG) (Λ := []) tysOK ctrs_nil mixed (by kernel_rfl) (by kernel_rfl) (by kernel_rfl) (by kernel_rfl) lp_nil fun (x : List UInt8) hw _ => by
    rw [congrFun prest_tree x]
    exact holds_val (d := prestC.fn x) (by kernel_rfl) (by simp [Tree.safe])
end Go.Ev.Z
/- The document's parts, in bytes. -/
set_option linter.unusedVariables false
set_option linter.unusedSimpArgs false
namespace Go.Ev.Z
open Go.Proofs
end Go.Ev.Z
/- A parcel read. -/
set_option linter.unusedVariables false
set_option linter.unusedSimpArgs false
namespace Go.Ev.Z
open Go.Proofs
end Go.Ev.Z
/- A hello in bytes; the law of frames, kind by kind. -/
set_option linter.unusedVariables false
set_option linter.unusedSimpArgs false
namespace Go.Ev.Z
open Go.Proofs
def hbytesG : List (Nat × Ctr) := [(71, hokC), (96, bytesC)]
theorem hbytesG_ok : CtrsOK Tryz.prog (fun f => lk f hbytesG) := (ctrs_cons hok_ok (ctrs_cons bytes_ok ctrs_nil))
def hbytesC : Ctr := { args := [gHello], res := [.str, .int .i64], pre := none, fn := fun (x : DHello) => helloF x }
theorem hbytes_tree : (fun x : DHello => evFn (mkC tys hbytesG []) (fnOf Tryz.prog 93) (resL hbytesC.args x) hbytesC.res) = (fun x => Tree.br (!hokF x) (Tree.leaf ([], (1 : Int))) (Tree.need ((0 : Int) ≤ (1 : Int) ∧ (1 : Int) < (17 : Int)) (Tree.need ((1 : Nat) + List.length (pairB x.2) ≤ (17 : Nat)) (Tree.need ((0 : Int) ≤ (0 : Int) ∧ (0 : Int) < (17 : Int)) (Tree.leaf (bytesToStr (List.drop (0 : Nat) (List.take (1 : Nat) [IntKind.wrap IntKind.u8 x.1, (0 : Int), (0 : Int), (0 : Int), (0 : Int), (0 : Int), (0 : Int), (0 : Int), (0 : Int), (0 : Int), (0 : Int), (0 : Int), (0 : Int), (0 : Int), (0 : Int), (0 : Int), (0 : Int)] ++ strToBytes (pairB x.2) ++ List.drop ((1 : Nat) + List.length (pairB x.2)) [IntKind.wrap IntKind.u8 x.1, (0 : Int), (0 : Int), (0 : Int), (0 : Int), (0 : Int), (0 : Int), (0 : Int), (0 : Int), (0 : Int), (0 : Int), (0 : Int), (0 : Int), (0 : Int), (0 : Int), (0 : Int), (0 : Int)])), (0 : Int))))))) := by kernel_rfl
theorem bytes_back : ∀ s : List UInt8, bytesToStr (strToBytes s) = s
  | [] => rfl
  | b :: s => by
    have := bytes_back s
    show UInt8.ofNat ((b.toNat : Int).toNat) :: bytesToStr (strToBytes s) = _
    rw [this]
    simp
theorem hok_in {h : DHello} (hk : hokF h = true) : 0 ≤ h.1 ∧ h.1 < 16 := by
  unfold hokF at hk
  cases hr : rightF h.1 with
  | true => exact rightF_iff.1 hr
  | false => rw [hr] at hk; cases hk
theorem hello_parts {h : DHello} (hk : hokF h = true) : bytesToStr ([IntKind.wrap IntKind.u8 h.1] ++ strToBytes (pairB h.2)) = helloB h := by
  obtain ⟨h0, h1⟩ := hok_in hk
  unfold helloB
  rw [u64_id h0 (by omega), num_one h0 (by omega), wrap_u8]
  show UInt8.ofNat (h.1 % 256).toNat :: bytesToStr (strToBytes (pairB h.2)) = _
  rw [bytes_back, Int.emod_eq_of_lt h0 (by omega)]
  rfl
theorem hbytes_ok : CtrOK Tryz.prog 93 hbytesC :=
  fun_ok (G := hbytesG) (Λ := []) tysOK hbytesG_ok mixed (by kernel_rfl) (by kernel_rfl) (by kernel_rfl) (by kernel_rfl) lp_nil fun (x : DHello) hw _ => by
    show (evFn (mkC tys hbytesG []) (fnOf Tryz.prog 93) (resL hbytesC.args x) hbytesC.res).holds (fun y => y = helloF x)
    rw [congrFun hbytes_tree x]
    simp only [Tree.holds, helloF]
    refine ⟨fun h => by rw [h]; rfl, fun h => ⟨by omega, by rw [pairB_len]; omega, by omega, ?_⟩⟩
    have hk : hokF x = true := by cases hq : hokF x <;> rw [hq] at h <;> first | rfl | cases h
    rw [hk, ← hello_parts hk, pairB_len]
    simp only [List.drop_zero, Bool.not_true, cond_false]
    rfl
end Go.Ev.Z
/- Numbers in a row, bits of acks. -/
set_option linter.unusedVariables false
set_option linter.unusedSimpArgs false
namespace Go.Ev.Z
open Go.Proofs
def srtC : Ctr := { args := [.int .i64], res := [.bool], pre := none, fn := fun (x : Int) => nearF x }
def srtG : List (Nat × Ctr) := []
theorem srt_tree : (fun x : Int => evFn (mkC tys srtG []) (fnOf Tryz.prog 76) (resL srtC.args x) srtC.res) = (fun x => Tree.leaf (bif decide (x ≥ (0 : Int)) then decide (x ≤ (65535 : Int)) else false)) := by kernel_rfl
theorem srt_ok : CtrOK Tryz.prog 76 srtC :=
  fun_ok (G := srtG) (Λ := []) tysOK ctrs_nil mixed (by kernel_rfl) (by kernel_rfl) (by kernel_rfl) (by kernel_rfl) lp_nil fun (x : Int) hw _ => by
    rw [congrFun srt_tree x]
    exact holds_val (d := srtC.fn x) (by kernel_rfl) (by simp [Tree.safe])
def snextG : List (Nat × Ctr) := [(76, srtC)]
theorem snextG_ok : CtrsOK Tryz.prog (fun f => lk f snextG) := (ctrs_cons srt_ok ctrs_nil)
def snextC : Ctr := { args := [.int .i64], res := [.int .i64, .int .i64], pre := none, fn := fun (x : Int) => nextS x }
theorem snext_tree : (fun x : Int => evFn (mkC tys snextG []) (fnOf Tryz.prog 49) (resL snextC.args x) snextC.res) = (fun x => Tree.br (!nearF x) (Tree.leaf ((0 : Int), (1 : Int))) (Tree.br (decide (x ≥ (65000 : Int))) (Tree.leaf ((0 : Int), (11 : Int))) (Tree.leaf (IntKind.wrap IntKind.i64 (x + (1 : Int)), (0 : Int))))) := by kernel_rfl
theorem snext_ok : CtrOK Tryz.prog 49 snextC :=
  fun_ok (G := snextG) (Λ := []) tysOK snextG_ok mixed (by kernel_rfl) (by kernel_rfl) (by kernel_rfl) (by kernel_rfl) lp_nil fun (x : Int) hw _ => by
    rw [congrFun snext_tree x]
    have e : snextC.fn x = nextS x := rfl
    rw [e]
    unfold nextS
    refine ⟨fun h => by rw [h]; rfl, fun h => ⟨fun g => by rw [h, g]; rfl, fun g => ?_⟩⟩
    have := near_not h
    rw [h, g, i64_id (n := x + 1) (by omega) (by omega)]; rfl
def saheadG : List (Nat × Ctr) := [(76, srtC)]
theorem saheadG_ok : CtrsOK Tryz.prog (fun f => lk f saheadG) := (ctrs_cons srt_ok ctrs_nil)
def saheadC : Ctr := { args := [.int .i64, .int .i64], res := [.int .i64], pre := none, fn := fun (x : Int × Int) => aheadS x.1 x.2 }
theorem sahead_tree : (fun x : Int × Int => evFn (mkC tys saheadG []) (fnOf Tryz.prog 99) (resL saheadC.args x) saheadC.res) = (fun x => Tree.br (bif bif !nearF x.1 then true else !nearF x.2 then true else decide (x.1 < x.2)) (Tree.leaf (-1 : Int)) (Tree.leaf (IntKind.wrap IntKind.i64 (x.1 - x.2)))) := by kernel_rfl
theorem sahead_ok : CtrOK Tryz.prog 99 saheadC :=
  fun_ok (G := saheadG) (Λ := []) tysOK saheadG_ok mixed (by kernel_rfl) (by kernel_rfl) (by kernel_rfl) (by kernel_rfl) lp_nil fun (x : Int × Int) hw _ => by
    rw [congrFun sahead_tree x]
    have e : saheadC.fn x = aheadS x.1 x.2 := rfl
    rw [e]
    unfold aheadS
    refine ⟨fun h => ?_, fun h => ?_⟩
    · rw [show (bif (bif !nearF x.1 then true else !nearF x.2) then true else decide (x.1 < x.2)) = true from by revert h; cases !nearF x.1 <;> cases !nearF x.2 <;> exact fun h => h]; rfl
    · have h2 : (bif (bif !nearF x.1 then true else !nearF x.2) then true else decide (x.1 < x.2)) = false := by revert h; cases !nearF x.1 <;> cases !nearF x.2 <;> exact fun h => h
      have := ahead_in h2
      rw [h2, i64_id (n := x.1 - x.2) (by omega) (by omega)]; rfl
def snearC : Ctr := { args := [.int .i64, .int .i64], res := [.bool], pre := none, fn := fun (x : Int × Int) => nearS x.1 x.2 }
def snearG : List (Nat × Ctr) := [(99, saheadC)]
theorem snear_tree : (fun x : Int × Int => evFn (mkC tys snearG []) (fnOf Tryz.prog 83) (resL snearC.args x) snearC.res) = (fun x => Tree.leaf (bif decide (aheadS x.1 x.2 ≥ (0 : Int)) then decide (aheadS x.1 x.2 < (8 : Int)) else false)) := by kernel_rfl
theorem snear_ok : CtrOK Tryz.prog 83 snearC :=
  fun_ok (G := snearG) (Λ := []) tysOK (ctrs_cons sahead_ok ctrs_nil) mixed (by kernel_rfl) (by kernel_rfl) (by kernel_rfl) (by kernel_rfl) lp_nil fun (x : Int × Int) hw _ => by
    rw [congrFun snear_tree x]
    exact holds_val (d := snearC.fn x) (by kernel_rfl) (by simp [Tree.safe])
def abitC : Ctr := { args := [], res := [.arr 8 (.int .i64)], pre := none, fn := fun (x : Unit) => bitT }
def abitG : List (Nat × Ctr) := []
theorem abit_tree : (fun x : Unit => evFn (mkC tys abitG []) (fnOf Tryz.prog 102) (resL abitC.args x) abitC.res) = (fun x => Tree.leaf [(1 : Int), (2 : Int), (4 : Int), (8 : Int), (16 : Int), (32 : Int), (64 : Int), (128 : Int)]) := by kernel_rfl
theorem abit_ok : CtrOK Tryz.prog 102 abitC :=
  fun_ok (G := abitG) (Λ := []) tysOK ctrs_nil mixed (by kernel_rfl) (by kernel_rfl) (by kernel_rfl) (by kernel_rfl) lp_nil fun (x : Unit) hw _ => by
    rw [congrFun abit_tree x]
    exact holds_val (d := abitC.fn x) (by kernel_rfl) (by simp [Tree.safe])
def ahasG : List (Nat × Ctr) := [(102, abitC)]
theorem ahasG_ok : CtrsOK Tryz.prog (fun f => lk f ahasG) := (ctrs_cons abit_ok ctrs_nil)
def gAck : GTy := .prod (.int .i64) (.prod (.prod (.prod (.int .u32) (.int .u32)) (.prod (.int .u32) (.int .u32))) (.prod (.int .i64) (.int .i64)))
def ahasC : Ctr := { args := [gAck, .int .i64], res := [.bool], pre := none, fn := fun (x : DAck × Int) => hasA x.1 x.2 }
theorem ahas_tree : (fun x : DAck × Int => evFn (mkC tys ahasG []) (fnOf Tryz.prog 91) (resL ahasC.args x) ahasC.res) = (fun x => Tree.br (decide (x.2 < x.1.2.2.1)) (Tree.leaf true) (Tree.br (bif decide (x.1.2.2.1 < (0 : Int)) then decide (x.1.2.2.1 < (0 : Int)) else bif decide (x.2 > (65535 : Int)) then decide (x.2 > (65535 : Int)) else decide (IntKind.wrap IntKind.i64 (x.2 - x.1.2.2.1) ≥ (8 : Int))) (Tree.leaf false) (Tree.need ((0 : Int) ≤ IntKind.wrap IntKind.i64 (x.2 - x.1.2.2.1) ∧ IntKind.wrap IntKind.i64 (x.2 - x.1.2.2.1) < (8 : Int)) (Tree.leaf (bitsOp BinOp.and IntKind.i64 x.1.2.2.2 (List.getD [(1 : Int), (2 : Int), (4 : Int), (8 : Int), (16 : Int), (32 : Int), (64 : Int), (128 : Int)] (Int.toNat (IntKind.wrap IntKind.i64 (x.2 - x.1.2.2.1))) (0 : Int)) != (0 : Int)))))) := by kernel_rfl
theorem ahas_ok : CtrOK Tryz.prog 91 ahasC :=
  fun_ok (G := ahasG) (Λ := []) tysOK ahasG_ok mixed (by kernel_rfl) (by kernel_rfl) (by kernel_rfl) (by kernel_rfl) lp_nil fun (x : DAck × Int) hw _ => by
    rw [congrFun ahas_tree x]
    have e : ahasC.fn x = hasA x.1 x.2 := rfl
    rw [e]
    unfold hasA
    refine ⟨fun h => by rw [h]; rfl, fun h => ?_⟩
    rw [h, cond_false]
    have h' : ¬ x.2 < x.1.2.2.1 := of_decide_eq_false h
    by_cases h0 : x.1.2.2.1 < 0
    · rw [decide_eq_true h0]
      exact ⟨fun _ => rfl, fun g => by cases g⟩
    · rw [decide_eq_false h0]
      simp only [cond_false]
      by_cases h1 : x.2 > 65535
      · rw [decide_eq_true h1]
        exact ⟨fun _ => rfl, fun g => by cases g⟩
      · rw [decide_eq_false h1]
        simp only [cond_false]
        rw [i64_id (n := x.2 - x.1.2.2.1) (by omega) (by omega)]
        refine ⟨fun g => by rw [g]; rfl, fun g => ⟨⟨by omega, ?_⟩, ?_⟩⟩
        · have : ¬ x.2 - x.1.2.2.1 ≥ 8 := of_decide_eq_false g
          omega
        · rw [g]; rfl
def smostC : Ctr := { args := [], res := [.int .i64], pre := none, fn := fun (x : Unit) => (6 : Int) }
def smostG : List (Nat × Ctr) := []
theorem smost_tree : (fun x : Unit => evFn (mkC tys smostG []) (fnOf Tryz.prog 75) (resL smostC.args x) smostC.res) = (fun x => Tree.leaf (6 : Int)) := by kernel_rfl
theorem smost_ok : CtrOK Tryz.prog 75 smostC :=
  fun_ok (G := smostG) (Λ := []) tysOK ctrs_nil mixed (by kernel_rfl) (by kernel_rfl) (by kernel_rfl) (by kernel_rfl) lp_nil fun (x : Unit) hw _ => by
    rw [congrFun smost_tree x]
    exact holds_val (d := smostC.fn x) (by kernel_rfl) (by simp [Tree.safe])
end Go.Ev.Z
/- What is kept and sent again; the window's parts. -/
set_option linter.unusedVariables false
set_option linter.unusedSimpArgs false
namespace Go.Ev.Z
open Go.Proofs
def gItem : GTy := .prod (.int .i64) (.prod (.int .i64) (.prod (.int .u32) (.int .i64)))
def gPair : GTy := .prod (.prod (.int .u32) (.int .u32)) (.prod (.int .u32) (.int .u32))
def gPart : GTy := .prod (.int .i64) (.prod gPair (.prod (.int .i64) (.prod .bool (.sl gItem))))
def gKept : GTy := .prod (.int .i64) (.prod .str (.prod (.int .i64) (.int .i64)))
def gWin : GTy := .prod (.int .i64) (.sl gPart)
def gBox : GTy := .prod (.int .i64) (.prod (.sl gKept) (.prod gWin (.sl gItem)))
def gRules : GTy := .prod (.int .i64) (.prod (.int .i64) (.prod (.int .i64) (.int .i64)))
def sqD : LoopD where
  prom := [(3, 1003, 3, .int .i64)]
  ts := [(3, .tip 1003), (7, .val (.sl gPart)), (8, .val (.int .i64)), (9, .val (.int .i64))]
  bs := [(1003, .row 3 (.int .i64) false)]
  pre := fun (x : SqS) => sqPre x
  out := fun (x : SqS) => .leaf (.exit 0, ((x.1.1, x.1.2.1, x.1.2.1, ()), (x.2.1 ++ (x.1.1.drop x.1.2.2.1.toNat).map (·.2.2.1), ())))
theorem sq_round : (fun x : SqS => roundOf (mkC tys [] [(0, sqD.spec)]) sqD (loopB 0 (bodyOf (fnOf Tryz.prog 85))) x) = (fun x => Tree.br (decide (x.1.2.2.1 < x.1.2.1)) (Tree.need ((0 : Int) ≤ x.1.2.2.1 ∧ x.1.2.2.1 < (↑(List.length x.1.1) : Int)) (Tree.need ((List.length x.2.1 + (1 : Nat)) * (8 : Nat) ≤ (140737488355328 : Nat)) (Tree.leaf (Ex.normal, some ((x.1.1, x.1.2.1, IntKind.wrap IntKind.i64 (x.1.2.2.1 + (1 : Int)), ()), x.2.1 ++ [(List.getD x.1.1 (Int.toNat x.1.2.2.1) ((0 : Int), (((0 : Int), (0 : Int)), (0 : Int), (0 : Int)), (0 : Int), false, [])).2.2.1], ()))))) (Tree.leaf (Ex.exit (0 : Nat), some ((x.1.1, x.1.2.1, x.1.2.2.1, ()), x.2.1, ())))) := by kernel_rfl
theorem sq_loop : LoopOK (mkC tys [] [(0, sqD.spec)]) sqD.spec (loopB 0 (bodyOf (fnOf Tryz.prog 85))) :=
  loopD_ok1 (fun _ => rfl) (fun x => congrFun sq_round x) (fun (x : SqS) => (x.1.2.1 - x.1.2.2.1).toNat) fun (x : SqS) hp => by
    obtain ⟨⟨l, len, i, ⟨⟩⟩, o, ⟨⟩⟩ := x
    obtain ⟨h1, h2, h3, h4, h5⟩ := hp
    simp only at h1 h2 h3 h4 h5
    have hz : ((0 : Int), (((0 : Int), (0 : Int)), (0 : Int), (0 : Int)), (0 : Int), false, ([] : List DItem)) = part0 := rfl
    simp only [Tree.holds, hz]
    refine ⟨fun h => ?_, fun h => ?_⟩
    · have h' : i < len := of_decide_eq_true h
      have hd := drop_elt (l := l) part0 h1 (by omega)
      rw [i64_id (n := i + 1) (by omega) (by omega)]
      refine ⟨⟨h1, by omega⟩, by omega, _, rfl, ⟨by show 0 ≤ i + 1; omega, by show i + 1 ≤ len; omega, h3, h4, by show ((o ++ [_]).length : Int) ≤ i + 1; rw [List.length_append, List.length_singleton]; omega⟩, by show (len - (i + 1)).toNat < (len - i).toNat; omega, ?_⟩
      show (Ex.exit 0, ((l, len, len, ()), (o ++ [(l.getD i.toNat part0).2.2.1] ++ (l.drop (i + 1).toNat).map (·.2.2.1), ()))) = (Ex.exit 0, ((l, len, len, ()), (o ++ (l.drop i.toNat).map (·.2.2.1), ())))
      rw [hd, List.append_assoc]; rfl
    · have h' : ¬ i < len := of_decide_eq_false h
      have hi : i = len := by omega
      subst hi
      refine ⟨_, rfl, ?_⟩
      show (Ex.exit 0, ((l, i, i, ()), (o ++ (l.drop i.toNat).map (·.2.2.1), ()))) = _
      rw [List.drop_eq_nil_of_le (by omega), List.map_nil, List.append_nil]
      rfl
def seqsC : Ctr := { args := [gWin], res := [.sl (.int .i64)], pre := some (fun (x : DWin) => x.2.length ≤ 100000), fn := fun (x : DWin) => seqsF x }
theorem seqs_tree : (fun x : DWin => evFn (mkC tys [] [(0, sqD.spec)]) (fnOf Tryz.prog 85) (resL seqsC.args x) seqsC.res) = (fun x => Tree.need (sqPre ((x.2, (↑(List.length x.2) : Int), (0 : Int), PUnit.unit), [], PUnit.unit)) (Tree.leaf ([] ++ List.map (fun x => x.2.2.1) (List.drop (Int.toNat (0 : Int)) x.2)))) := by kernel_rfl
theorem seqs_ok : CtrOK Tryz.prog 85 seqsC :=
  fun_ok (G := []) (Λ := [(0, sqD.spec)]) tysOK ctrs_nil mixed (by kernel_rfl) (by kernel_rfl) (by kernel_rfl) (by kernel_rfl) (lp_cons sq_loop lp_nil) fun (x : DWin) hw hp => by
    have hx : x.2.length ≤ 100000 := hp (fun (x : DWin) => x.2.length ≤ 100000) rfl
    rw [congrFun seqs_tree x]
    simp only [Tree.holds]
    refine ⟨⟨Int.le_refl _, by show (0 : Int) ≤ (x.2.length : Int); omega, rfl, by show (x.2.length : Int) ≤ 100000; omega, Int.le_refl _⟩, ?_⟩
    rfl
def ownC : Ctr := { args := [gPart], res := [gPart], pre := some (fun (x : DPart) => x.2.2.2.2.length ≤ 100000), fn := fun (x : DPart) => x }
theorem own_tree : (fun x : DPart => evFn (mkC tys [] []) (fnOf Tryz.prog 87) (resL ownC.args x) ownC.res) = (fun x => Tree.need (List.length x.2.2.2.2 * (32 : Nat) ≤ (140737488355328 : Nat)) (Tree.leaf (x.1, x.2.1, x.2.2.1, x.2.2.2.1, x.2.2.2.2))) := by kernel_rfl
theorem own_ok : CtrOK Tryz.prog 87 ownC :=
  fun_ok (G := []) (Λ := []) tysOK ctrs_nil mixed (by kernel_rfl) (by kernel_rfl) (by kernel_rfl) (by kernel_rfl) lp_nil fun (x : DPart) hw hp => by
    have hx : x.2.2.2.2.length ≤ 100000 := hp (fun (x : DPart) => x.2.2.2.2.length ≤ 100000) rfl
    rw [congrFun own_tree x]
    exact ⟨by omega, rfl⟩
def rackdG : List (Nat × Ctr) := [(91, ahasC)]
theorem rackdG_ok : CtrsOK Tryz.prog (fun f => lk f rackdG) := (ctrs_cons ahas_ok ctrs_nil)
def rkD : LoopD where
  prom := [(6, 1006, 164, gKept)]
  ts := [(3, .ptr 3 gAck), (6, .tip 1006), (9, .val (.sl gKept)), (10, .val (.int .i64)), (11, .val (.int .i64))]
  bs := [(3, .var gAck), (1006, .row 164 gKept false)]
  pre := fun (x : RkS) => rkPre x
  out := fun (x : RkS) => .leaf (.exit 0, ((x.1.1, x.1.2.1, x.1.2.1, ()), (x.2.1, x.2.2.1 ++ leftF (x.1.1.drop x.1.2.2.1.toNat) x.2.1, ())))
theorem rk_round : (fun x : RkS => roundOf (mkC tys rackdG [(0, rkD.spec)]) rkD (loopB 0 (bodyOf (fnOf Tryz.prog 65))) x) = (fun x => Tree.br (decide (x.1.2.2.1 < x.1.2.1)) (Tree.need ((0 : Int) ≤ x.1.2.2.1 ∧ x.1.2.2.1 < (↑(List.length x.1.1) : Int)) (Tree.need ((!hasA x.2.1 (List.getD x.1.1 (Int.toNat x.1.2.2.1) ((0 : Int), [], (0 : Int), (0 : Int))).1) = true → (List.length x.2.2.1 + (1 : Nat)) * (40 : Nat) ≤ (140737488355328 : Nat)) (Tree.leaf (Ex.normal, some ((x.1.1, x.1.2.1, IntKind.wrap IntKind.i64 (x.1.2.2.1 + (1 : Int)), ()), x.2.1, bif !hasA x.2.1 (List.getD x.1.1 (Int.toNat x.1.2.2.1) ((0 : Int), [], (0 : Int), (0 : Int))).1 then x.2.2.1 ++ [List.getD x.1.1 (Int.toNat x.1.2.2.1) ((0 : Int), [], (0 : Int), (0 : Int))] else x.2.2.1, ()))))) (Tree.leaf (Ex.exit (0 : Nat), some ((x.1.1, x.1.2.1, x.1.2.2.1, ()), x.2.1, x.2.2.1, ())))) := by kernel_rfl
theorem rk_loop : LoopOK (mkC tys rackdG [(0, rkD.spec)]) rkD.spec (loopB 0 (bodyOf (fnOf Tryz.prog 65))) :=
  loopD_ok1 (fun _ => rfl) (fun x => congrFun rk_round x) (fun (x : RkS) => (x.1.2.1 - x.1.2.2.1).toNat) fun (x : RkS) hp => by
    obtain ⟨⟨l, len, i, ⟨⟩⟩, a, o, ⟨⟩⟩ := x
    obtain ⟨h1, h2, h3, h4, h5⟩ := hp
    simp only at h1 h2 h3 h4 h5
    have hz : ((0 : Int), ([] : List UInt8), (0 : Int), (0 : Int)) = kept0 := rfl
    simp only [Tree.holds, hz]
    refine ⟨fun h => ?_, fun h => ?_⟩
    · have h' : i < len := of_decide_eq_true h
      have hd := drop_elt (l := l) kept0 h1 (by omega)
      rw [i64_id (n := i + 1) (by omega) (by omega)]
      have hlen : ((bif !hasA a (l.getD i.toNat kept0).1 then o ++ [l.getD i.toNat kept0] else o).length : Int) ≤ i + 1 := by
        cases !hasA a (l.getD i.toNat kept0).1 with
        | true => rw [cond_true, List.length_append, List.length_singleton]; omega
        | false => rw [cond_false]; omega
      refine ⟨⟨h1, by omega⟩, fun _ => by omega, _, rfl, ⟨by show 0 ≤ i + 1; omega, by show i + 1 ≤ len; omega, h3, h4, hlen⟩, by show (len - (i + 1)).toNat < (len - i).toNat; omega, ?_⟩
      show (Ex.exit 0, ((l, len, len, ()), (a, (bif !hasA a (l.getD i.toNat kept0).1 then o ++ [l.getD i.toNat kept0] else o) ++ leftF (l.drop (i + 1).toNat) a, ()))) = (Ex.exit 0, ((l, len, len, ()), (a, o ++ leftF (l.drop i.toNat) a, ())))
      rw [hd]
      have e : leftF (l.getD i.toNat kept0 :: l.drop (i + 1).toNat) a = (bif !hasA a (l.getD i.toNat kept0).1 then [l.getD i.toNat kept0] else []) ++ leftF (l.drop (i + 1).toNat) a := by
        unfold leftF
        rw [List.filter_cons]
        cases !hasA a (l.getD i.toNat kept0).1 <;> rfl
      rw [e]
      cases !hasA a (l.getD i.toNat kept0).1 with
      | true => rw [cond_true, cond_true, List.append_assoc]
      | false => rfl
    · have h' : ¬ i < len := of_decide_eq_false h
      have hi : i = len := by omega
      subst hi
      refine ⟨_, rfl, ?_⟩
      show (Ex.exit 0, ((l, i, i, ()), (a, o ++ leftF (l.drop i.toNat) a, ()))) = _
      rw [List.drop_eq_nil_of_le (by omega), show leftF [] a = [] from rfl, List.append_nil]
      rfl
def rackdC : Ctr := { args := [.sl gKept, gAck], res := [.sl gKept, .int .i64], pre := some (fun (x : List DKept × DAck) => x.1.length ≤ 100000), fn := fun (x : List DKept × DAck) => ackedF x.1 x.2 }
theorem rackd_tree : (fun x : List DKept × DAck => evFn (mkC tys rackdG [(0, rkD.spec)]) (fnOf Tryz.prog 65) (resL rackdC.args x) rackdC.res) = (fun x => Tree.need (rkPre ((x.1, (↑(List.length x.1) : Int), (0 : Int), PUnit.unit), x.2, [], PUnit.unit)) (Tree.leaf ([] ++ leftF (List.drop (Int.toNat (0 : Int)) x.1) x.2, IntKind.wrap IntKind.i64 ((↑(List.length x.1) : Int) - (↑(List.length ([] ++ leftF (List.drop (Int.toNat (0 : Int)) x.1) x.2)) : Int))))) := by kernel_rfl
theorem rackd_ok : CtrOK Tryz.prog 65 rackdC :=
  fun_ok (G := rackdG) (Λ := [(0, rkD.spec)]) tysOK rackdG_ok mixed (by kernel_rfl) (by kernel_rfl) (by kernel_rfl) (by kernel_rfl) (lp_cons rk_loop lp_nil) fun (x : List DKept × DAck) hw hp => by
    have hx : x.1.length ≤ 100000 := hp (fun (x : List DKept × DAck) => x.1.length ≤ 100000) rfl
    rw [congrFun rackd_tree x]
    have e : rackdC.fn x = ackedF x.1 x.2 := rfl
    rw [e]
    have hl : (leftF x.1 x.2).length ≤ x.1.length := List.length_filter_le _ _
    simp only [Tree.holds]
    refine ⟨⟨Int.le_refl _, by show (0 : Int) ≤ (x.1.length : Int); omega, rfl, by show (x.1.length : Int) ≤ 100000; omega, Int.le_refl _⟩, ?_⟩
    show (leftF x.1 x.2, IntKind.i64.wrap ((x.1.length : Int) - (leftF x.1 x.2).length)) = ackedF x.1 x.2
    rw [i64_id (by omega) (by omega)]
    rfl
def aofG : List (Nat × Ctr) := [(102, abitC)]
theorem aofG_ok : CtrsOK Tryz.prog (fun f => lk f aofG) := (ctrs_cons abit_ok ctrs_nil)
def aoD : LoopD where
  prom := []
  ts := [(0, .val (.int .i64)), (6, .val (.int .i64)), (7, .ptr 7 (.arr 8 (.int .i64))), (14, .val (.sl (.int .i64))), (15, .val (.int .i64)), (16, .val (.int .i64))]
  bs := [(7, .var (.arr 8 (.int .i64)))]
  pre := fun (x : AoS) => aoPre x
  out := fun (x : AoS) => .leaf (.exit 0, ((x.1.1, (x.1.2.2.1.drop x.1.2.2.2.2.1.toNat).foldl (orBit x.1.1) x.1.2.1, x.1.2.2.1, x.1.2.2.2.1, x.1.2.2.2.1, ()), (x.2.1, ())))
theorem ao_round : (fun x : AoS => roundOf (mkC tys aofG [(0, aoD.spec)]) aoD (loopB 0 (bodyOf (fnOf Tryz.prog 89))) x) = (fun x => Tree.br (decide (x.1.2.2.2.2.1 < x.1.2.2.2.1)) (Tree.need ((0 : Int) ≤ x.1.2.2.2.2.1 ∧ x.1.2.2.2.2.1 < (↑(List.length x.1.2.2.1) : Int)) (Tree.need ((bif decide (List.getD x.1.2.2.1 (Int.toNat x.1.2.2.2.2.1) (0 : Int) ≥ x.1.1) then decide (IntKind.wrap IntKind.i64 (List.getD x.1.2.2.1 (Int.toNat x.1.2.2.2.2.1) (0 : Int) - x.1.1) < (8 : Int)) else false) = true → (0 : Int) ≤ IntKind.wrap IntKind.i64 (List.getD x.1.2.2.1 (Int.toNat x.1.2.2.2.2.1) (0 : Int) - x.1.1) ∧ IntKind.wrap IntKind.i64 (List.getD x.1.2.2.1 (Int.toNat x.1.2.2.2.2.1) (0 : Int) - x.1.1) < (8 : Int)) (Tree.leaf (Ex.normal, some ((x.1.1, bif bif decide (List.getD x.1.2.2.1 (Int.toNat x.1.2.2.2.2.1) (0 : Int) ≥ x.1.1) then decide (IntKind.wrap IntKind.i64 (List.getD x.1.2.2.1 (Int.toNat x.1.2.2.2.2.1) (0 : Int) - x.1.1) < (8 : Int)) else false then bitsOp BinOp.or IntKind.i64 x.1.2.1 (List.getD x.2.1 (Int.toNat (IntKind.wrap IntKind.i64 (List.getD x.1.2.2.1 (Int.toNat x.1.2.2.2.2.1) (0 : Int) - x.1.1))) (0 : Int)) else x.1.2.1, x.1.2.2.1, x.1.2.2.2.1, IntKind.wrap IntKind.i64 (x.1.2.2.2.2.1 + (1 : Int)), ()), x.2.1, ()))))) (Tree.leaf (Ex.exit (0 : Nat), some ((x.1.1, x.1.2.1, x.1.2.2.1, x.1.2.2.2.1, x.1.2.2.2.2.1, ()), x.2.1, ())))) := by kernel_rfl
theorem ao_loop : LoopOK (mkC tys aofG [(0, aoD.spec)]) aoD.spec (loopB 0 (bodyOf (fnOf Tryz.prog 89))) :=
  loopD_ok1 (fun _ => rfl) (fun x => congrFun ao_round x) (fun (x : AoS) => (x.1.2.2.2.1 - x.1.2.2.2.2.1).toNat) fun (x : AoS) hp => by
    obtain ⟨⟨n, b, l, len, i, ⟨⟩⟩, t, ⟨⟩⟩ := x
    obtain ⟨h1, h2, h3, h4, h5, h6, h7⟩ := hp
    simp only at h1 h2 h3 h4 h5 h6 h7
    subst h6
    simp only [Tree.holds]
    refine ⟨fun h => ?_, fun h => ?_⟩
    · have h' : i < len := of_decide_eq_true h
      have hd := drop_elt (l := l) 0 h1 (by omega)
      have hm := h7 _ (elt_mem (l := l) 0 h1 (by omega))
      rw [i64_id (n := i + 1) (by omega) (by omega), or_wrap h5 hm.2]
      refine ⟨⟨h1, by omega⟩, fun g => or_need h5 hm.2 g, _, rfl, ⟨by show 0 ≤ i + 1; omega, by show i + 1 ≤ len; omega, h3, h4, h5, rfl, h7⟩, by show (len - (i + 1)).toNat < (len - i).toNat; omega, ?_⟩
      show (Ex.exit 0, ((n, (l.drop (i + 1).toNat).foldl (orBit n) (orBit n b (l.getD i.toNat 0)), l, len, len, ()), (bitT, ()))) = (Ex.exit 0, ((n, (l.drop i.toNat).foldl (orBit n) b, l, len, len, ()), (bitT, ())))
      rw [hd]; rfl
    · have h' : ¬ i < len := of_decide_eq_false h
      have hi : i = len := by omega
      subst hi
      refine ⟨_, rfl, ?_⟩
      show (Ex.exit 0, ((n, (l.drop i.toNat).foldl (orBit n) b, l, i, i, ()), (bitT, ()))) = _
      rw [List.drop_eq_nil_of_le (by omega)]
      rfl
def aofC : Ctr := { args := [.int .i64, .sl (.int .i64)], res := [.int .i64, .int .i64], pre := some (fun (x : Int × List Int) => x.2.length ≤ 100000), fn := fun (x : Int × List Int) => bitsA x.1 x.2 }
theorem aof_tree : (fun x : Int × List Int => evFn (mkC tys aofG [(0, aoD.spec)]) (fnOf Tryz.prog 89) (resL aofC.args x) aofC.res) = (fun x => Tree.br (decide (x.1 < (0 : Int))) (Tree.leaf (x.1, (0 : Int))) (Tree.need (aoPre ((x.1, (0 : Int), x.2, (↑(List.length x.2) : Int), (0 : Int), PUnit.unit), [(1 : Int), (2 : Int), (4 : Int), (8 : Int), (16 : Int), (32 : Int), (64 : Int), (128 : Int)], PUnit.unit)) (Tree.leaf (x.1, List.foldl (orBit x.1) (0 : Int) (List.drop (Int.toNat (0 : Int)) x.2))))) := by kernel_rfl
theorem aof_ok : CtrOK Tryz.prog 89 aofC :=
  fun_ok (G := aofG) (Λ := [(0, aoD.spec)]) tysOK aofG_ok mixed (by kernel_rfl) (by kernel_rfl) (by kernel_rfl) (by kernel_rfl) (lp_cons ao_loop lp_nil) fun (x : Int × List Int) hw hp => by
    have hx : x.2.length ≤ 100000 := hp (fun (x : Int × List Int) => x.2.length ≤ 100000) rfl
    rw [congrFun aof_tree x]
    have e : aofC.fn x = bitsA x.1 x.2 := rfl
    rw [e]
    unfold bitsA
    refine ⟨fun h => by rw [h]; rfl, fun h => ⟨?_, by rw [h]; rfl⟩⟩
    have h' : ¬ x.1 < 0 := of_decide_eq_false h
    exact ⟨Int.le_refl _, by show (0 : Int) ≤ (x.2.length : Int); omega, rfl, by show (x.2.length : Int) ≤ 100000; omega, by show 0 ≤ x.1; omega, rfl, fun q hq => (has_i64 q).1 (hw.2.2.2 q hq)⟩
def sxD : LoopD where
  prom := []
  ts := [(0, .val (.sl (.int .i64))), (1, .val (.int .i64)), (4, .val (.int .i64)), (7, .val (.int .i64)), (8, .val (.int .i64))]
  bs := []
  pre := fun (x : SxS) => sxPre x
  out := fun (x : SxS) => out2 0 (runF sxStp (sxMu x + 1) x)
theorem sx_round : (fun x : SxS => roundOf (mkC tys [] [(0, sxD.spec)]) sxD (loopB 0 (bodyOf (fnOf Tryz.prog 100))) x) = (fun x => Tree.br (decide (x.1.2.2.2.2.1 < x.1.2.2.2.1)) (Tree.need ((0 : Int) ≤ x.1.2.2.2.2.1 ∧ x.1.2.2.2.2.1 < (↑(List.length x.1.1) : Int)) (Tree.br (x.1.2.1 == List.getD x.1.1 (Int.toNat x.1.2.2.2.2.1) (0 : Int)) (Tree.leaf (Ex.ret, some ((x.1.1, x.1.2.1, x.1.2.2.2.2.1, x.1.2.2.2.1, x.1.2.2.2.2.1, ()), ()))) (Tree.leaf (Ex.normal, some ((x.1.1, x.1.2.1, x.1.2.2.1, x.1.2.2.2.1, IntKind.wrap IntKind.i64 (x.1.2.2.2.2.1 + (1 : Int)), ()), ()))))) (Tree.leaf (Ex.exit (0 : Nat), some ((x.1.1, x.1.2.1, x.1.2.2.1, x.1.2.2.2.1, x.1.2.2.2.2.1, ()), ())))) := by kernel_rfl
theorem sx_loop : LoopOK (mkC tys [] [(0, sxD.spec)]) sxD.spec (loopB 0 (bodyOf (fnOf Tryz.prog 100))) :=
  loopF2_ok (id := 0) (D := sxD) (fun x => congrFun sx_round x) sxStp sxMu (fun _ => rfl) sxStp_ends fun (x : SxS) hp => by
    refine ⟨?_, fun hn => sx_go hp hn⟩
    obtain ⟨⟨s, v, r, len, i, ⟨⟩⟩, ⟨⟩⟩ := x
    obtain ⟨h1, h2, h3, h4⟩ := hp
    simp only at h1 h2 h3 h4
    simp only [Tree.holds, sxStp]
    refine ⟨fun h => ?_, fun h => by rw [h]; rfl⟩
    have h' : i < len := of_decide_eq_true h
    refine ⟨⟨h1, by omega⟩, fun g => by rw [h, g]; rfl, fun g => ?_⟩
    rw [h, g, i64_id (n := i + 1) (by omega) (by omega)]; rfl
def sidxC : Ctr := { args := [.sl (.int .i64), .int .i64], res := [.int .i64], pre := some (fun (x : List Int × Int) => x.1.length ≤ 100000), fn := fun (x : List Int × Int) => idxGo x.2 0 x.1 }
theorem sidx_tree : (fun x : List Int × Int => evFn (mkC tys [] [(0, sxD.spec)]) (fnOf Tryz.prog 100) (resL sidxC.args x) sidxC.res) = (fun x => Tree.need (sxPre ((x.1, x.2, (0 : Int), (↑(List.length x.1) : Int), (0 : Int), PUnit.unit), PUnit.unit)) (Tree.br (isRet (runF sxStp (sxMu ((x.1, x.2, (0 : Int), (↑(List.length x.1) : Int), (0 : Int), PUnit.unit), PUnit.unit) + (1 : Nat)) ((x.1, x.2, (0 : Int), (↑(List.length x.1) : Int), (0 : Int), PUnit.unit), PUnit.unit)).1) (Tree.leaf (runF sxStp (sxMu ((x.1, x.2, (0 : Int), (↑(List.length x.1) : Int), (0 : Int), PUnit.unit), PUnit.unit) + (1 : Nat)) ((x.1, x.2, (0 : Int), (↑(List.length x.1) : Int), (0 : Int), PUnit.unit), PUnit.unit)).2.1.2.2.1) (Tree.leaf (-1 : Int)))) := by kernel_rfl
theorem sidx_ok : CtrOK Tryz.prog 100 sidxC :=
  fun_ok (G := []) (Λ := [(0, sxD.spec)]) tysOK ctrs_nil mixed (by kernel_rfl) (by kernel_rfl) (by kernel_rfl) (by kernel_rfl) (lp_cons sx_loop lp_nil) fun (x : List Int × Int) hw hp => by
    have hx : x.1.length ≤ 100000 := hp (fun (x : List Int × Int) => x.1.length ≤ 100000) rfl
    rw [congrFun sidx_tree x]
    have e : sidxC.fn x = idxGo x.2 0 x.1 := rfl
    rw [e]
    have hp2 : sxPre ((x.1, x.2, 0, x.1.length, 0, ()), ()) := ⟨Int.le_refl _, by show (0 : Int) ≤ (x.1.length : Int); omega, rfl, by show (x.1.length : Int) ≤ 100000; omega⟩
    have key := sx_run (R := idxGo x.2 0 x.1) _ _ hp2 rfl (Nat.lt_succ_self _)
    refine ⟨hp2, ?_⟩
    rw [← key]
    refine ⟨fun h => ?_, fun h => ?_⟩
    · rw [h]; rfl
    · rw [h]; rfl
def scontG : List (Nat × Ctr) := [(100, sidxC)]
theorem scontG_ok : CtrsOK Tryz.prog (fun f => lk f scontG) := (ctrs_cons sidx_ok ctrs_nil)
def scontC : Ctr := { args := [.sl (.int .i64), .int .i64], res := [.bool], pre := some (fun (x : List Int × Int) => x.1.length ≤ 100000), fn := fun (x : List Int × Int) => x.1.any (fun n => n == x.2) }
theorem scont_tree : (fun x : List Int × Int => evFn (mkC tys scontG []) (fnOf Tryz.prog 84) (resL scontC.args x) scontC.res) = (fun x => Tree.need (List.length x.1 ≤ (100000 : Nat)) (Tree.leaf (decide (idxGo x.2 (0 : Int) x.1 ≥ (0 : Int))))) := by kernel_rfl
theorem scont_ok : CtrOK Tryz.prog 84 scontC :=
  fun_ok (G := scontG) (Λ := []) tysOK scontG_ok mixed (by kernel_rfl) (by kernel_rfl) (by kernel_rfl) (by kernel_rfl) lp_nil fun (x : List Int × Int) hw hp => by
    have hx : x.1.length ≤ 100000 := hp (fun (x : List Int × Int) => x.1.length ≤ 100000) rfl
    rw [congrFun scont_tree x]
    exact ⟨hx, idx_any x.2 x.1 0 (Int.le_refl _)⟩
end Go.Ev.Z
/- Parts put in their place; kept parts added and ticked. -/
set_option linter.unusedVariables false
set_option linter.unusedSimpArgs false
namespace Go.Ev.Z
open Go.Proofs
def ptD : LoopD where
  prom := []
  ts := [(3, .ptr 3 gPart), (5, .val (.int .i64)), (11, .val (.sl gPart)), (12, .val (.int .i64)), (13, .val (.int .i64))]
  bs := [(3, .var gPart)]
  pre := fun (x : PtS) => ptPre x
  out := fun (x : PtS) => .leaf (.exit 0, ((ptK x, x.1.2.1, x.1.2.2.1, ptK x, ()), (x.2.1, ())))
theorem pt_round : (fun x : PtS => roundOf (mkC tys [] [(0, ptD.spec)]) ptD (loopB 0 (bodyOf (fnOf Tryz.prog 86))) x) = (fun x => Tree.br (decide (x.1.2.2.2.1 < x.1.2.2.1)) (Tree.need ((0 : Int) ≤ x.1.2.2.2.1 ∧ x.1.2.2.2.1 < (↑(List.length x.1.2.1) : Int)) (Tree.br (decide ((List.getD x.1.2.1 (Int.toNat x.1.2.2.2.1) ((0 : Int), (((0 : Int), (0 : Int)), (0 : Int), (0 : Int)), (0 : Int), false, [])).2.2.1 > x.2.1.2.2.1)) (Tree.leaf (Ex.exit (0 : Nat), some ((x.1.2.2.2.1, x.1.2.1, x.1.2.2.1, x.1.2.2.2.1, ()), x.2.1, ()))) (Tree.leaf (Ex.normal, some ((x.1.1, x.1.2.1, x.1.2.2.1, IntKind.wrap IntKind.i64 (x.1.2.2.2.1 + (1 : Int)), ()), x.2.1, ()))))) (Tree.leaf (Ex.exit (0 : Nat), some ((x.1.1, x.1.2.1, x.1.2.2.1, x.1.2.2.2.1, ()), x.2.1, ())))) := by kernel_rfl
def putC : Ctr := { args := [.sl gPart, gPart], res := [.sl gPart], pre := some (fun (x : List DPart × DPart) => x.1.length ≤ 100000), fn := fun (x : List DPart × DPart) => putF x.1 x.2 }
theorem pt_loop : LoopOK (mkC tys [] [(0, ptD.spec)]) ptD.spec (loopB 0 (bodyOf (fnOf Tryz.prog 86))) :=
  loopD_ok1 (fun _ => rfl) (fun x => congrFun pt_round x) (fun (x : PtS) => (x.1.2.2.1 - x.1.2.2.2.1).toNat) fun (x : PtS) hp => by
    obtain ⟨⟨pl, l, len, i, ⟨⟩⟩, p, ⟨⟩⟩ := x
    obtain ⟨h1, h2, h3, h4, h5⟩ := hp
    simp only at h1 h2 h3 h4 h5
    have hz : ((0 : Int), (((0 : Int), (0 : Int)), (0 : Int), (0 : Int)), (0 : Int), false, ([] : List DItem)) = part0 := rfl
    simp only [Tree.holds, hz]
    have hK : ∀ i : Int, ptK ((pl, l, len, i, ()), p, ()) = i + ((l.drop i.toNat).takeWhile (ptB p)).length := fun _ => rfl
    refine ⟨fun h => ?_, fun h => ?_⟩
    · have h' : i < len := of_decide_eq_true h
      have hd := drop_elt (l := l) part0 h1 (by omega)
      have hgt : ptB p (l.getD i.toNat part0) = !decide ((l.getD i.toNat part0).2.2.1 > p.2.2.1) := rfl
      refine ⟨⟨h1, by omega⟩, fun g => ?_, fun g => ?_⟩
      · refine ⟨_, rfl, ?_⟩
        show (Ex.exit 0, ((ptK ((pl, l, len, i, ()), p, ()), l, len, ptK ((pl, l, len, i, ()), p, ()), ()), (p, ()))) = _
        rw [hK, hd, List.takeWhile_cons, hgt, g]
        show (Ex.exit 0, ((i + 0, l, len, i + 0, ()), (p, ()))) = _
        rw [Int.add_zero]
        rfl
      · rw [i64_id (n := i + 1) (by omega) (by omega)]
        refine ⟨_, rfl, ⟨by show 0 ≤ i + 1; omega, by show i + 1 ≤ len; omega, h3, h4, h5⟩, by show (len - (i + 1)).toNat < (len - i).toNat; omega, ?_⟩
        show (Ex.exit 0, ((ptK ((pl, l, len, i + 1, ()), p, ()), l, len, ptK ((pl, l, len, i + 1, ()), p, ()), ()), (p, ()))) = (Ex.exit 0, ((ptK ((pl, l, len, i, ()), p, ()), l, len, ptK ((pl, l, len, i, ()), p, ()), ()), (p, ())))
        have e : ptK ((pl, l, len, i, ()), p, ()) = ptK ((pl, l, len, i + 1, ()), p, ()) := by
          rw [hK, hK, hd, List.takeWhile_cons, hgt, g]
          show i + (((l.drop (i + 1).toNat).takeWhile (ptB p)).length + 1 : Nat) = i + 1 + ((l.drop (i + 1).toNat).takeWhile (ptB p)).length
          omega
        rw [e]
    · have h' : ¬ i < len := of_decide_eq_false h
      have hi : i = len := by omega
      subst hi
      refine ⟨_, rfl, ?_⟩
      show (Ex.exit 0, ((ptK ((pl, l, i, i, ()), p, ()), l, i, ptK ((pl, l, i, i, ()), p, ()), ()), (p, ()))) = _
      have e : ptK ((pl, l, i, i, ()), p, ()) = i := by
        show i + ((l.drop i.toNat).takeWhile (ptB p)).length = i
        rw [List.drop_eq_nil_of_le (by omega)]
        exact Int.add_zero i
      rw [e, h5]
      rfl
theorem put_tree : (fun x : List DPart × DPart => evFn (mkC tys [] [(0, ptD.spec)]) (fnOf Tryz.prog 86) (resL putC.args x) putC.res) = (fun x => Tree.need (ptPre (((↑(List.length x.1) : Int), x.1, (↑(List.length x.1) : Int), (0 : Int), PUnit.unit), x.2, PUnit.unit)) (Tree.need ((0 : Int) ≤ ptK (((↑(List.length x.1) : Int), x.1, (↑(List.length x.1) : Int), (0 : Int), PUnit.unit), x.2, PUnit.unit) ∧ ptK (((↑(List.length x.1) : Int), x.1, (↑(List.length x.1) : Int), (0 : Int), PUnit.unit), x.2, PUnit.unit) ≤ (↑(List.length x.1) : Int)) (Tree.need (List.length (List.take (Int.toNat (ptK (((↑(List.length x.1) : Int), x.1, (↑(List.length x.1) : Int), (0 : Int), PUnit.unit), x.2, PUnit.unit))) x.1) * (64 : Nat) ≤ (140737488355328 : Nat)) (Tree.need ((List.length (List.take (Int.toNat (ptK (((↑(List.length x.1) : Int), x.1, (↑(List.length x.1) : Int), (0 : Int), PUnit.unit), x.2, PUnit.unit))) x.1) + (1 : Nat)) * (64 : Nat) ≤ (140737488355328 : Nat)) (Tree.need ((0 : Int) ≤ ptK (((↑(List.length x.1) : Int), x.1, (↑(List.length x.1) : Int), (0 : Int), PUnit.unit), x.2, PUnit.unit) ∧ ptK (((↑(List.length x.1) : Int), x.1, (↑(List.length x.1) : Int), (0 : Int), PUnit.unit), x.2, PUnit.unit) ≤ (↑(List.length x.1) : Int)) (Tree.need ((List.length (List.take (Int.toNat (ptK (((↑(List.length x.1) : Int), x.1, (↑(List.length x.1) : Int), (0 : Int), PUnit.unit), x.2, PUnit.unit))) x.1 ++ [x.2]) + List.length (List.drop (Int.toNat (ptK (((↑(List.length x.1) : Int), x.1, (↑(List.length x.1) : Int), (0 : Int), PUnit.unit), x.2, PUnit.unit))) x.1)) * (64 : Nat) ≤ (140737488355328 : Nat)) (Tree.leaf (List.take (Int.toNat (ptK (((↑(List.length x.1) : Int), x.1, (↑(List.length x.1) : Int), (0 : Int), PUnit.unit), x.2, PUnit.unit))) x.1 ++ [x.2] ++ List.drop (Int.toNat (ptK (((↑(List.length x.1) : Int), x.1, (↑(List.length x.1) : Int), (0 : Int), PUnit.unit), x.2, PUnit.unit))) x.1)))))))) := by kernel_rfl
theorem put_ok : CtrOK Tryz.prog 86 putC :=
  fun_ok (G := []) (Λ := [(0, ptD.spec)]) tysOK ctrs_nil mixed (by kernel_rfl) (by kernel_rfl) (by kernel_rfl) (by kernel_rfl) (lp_cons pt_loop lp_nil) fun (x : List DPart × DPart) hw hp => by
    have hx : x.1.length ≤ 100000 := hp (fun (x : List DPart × DPart) => x.1.length ≤ 100000) rfl
    rw [congrFun put_tree x]
    have hpre : ptPre (((↑(List.length x.1) : Int), x.1, (↑(List.length x.1) : Int), (0 : Int), PUnit.unit), x.2, PUnit.unit) := ⟨Int.le_refl _, by show (0 : Int) ≤ (x.1.length : Int); omega, rfl, by show (x.1.length : Int) ≤ 100000; omega, rfl⟩
    have hin := ptK_in hpre
    have hk : ptK (((↑(List.length x.1) : Int), x.1, (↑(List.length x.1) : Int), (0 : Int), PUnit.unit), x.2, PUnit.unit) = ((x.1.takeWhile (ptB x.2)).length : Int) := Int.zero_add _
    have e : putC.fn x = putF x.1 x.2 := rfl
    rw [e, ← put_in_place]
    simp only [Tree.holds, hk, Int.toNat_natCast]
    rw [hk] at hin
    simp only at hin
    refine ⟨hpre, hin, ?_, ?_, hin, ?_, rfl⟩
    all_goals (simp only [List.length_append, List.length_take, List.length_drop, List.length_singleton]; omega)
def raddG : List (Nat × Ctr) := [(76, srtC)]
theorem raddG_ok : CtrsOK Tryz.prog (fun f => lk f raddG) := (ctrs_cons srt_ok ctrs_nil)
def raD : LoopD where
  prom := [(8, 0, 0, gKept)]
  ts := [(0, .val (.sl gKept)), (1, .val (.int .i64)), (8, .val (.sl gKept)), (9, .val (.int .i64)), (26, .val (.sl gKept)), (27, .val (.int .i64)), (28, .val (.int .i64))]
  bs := []
  pre := fun (x : RaS) => raPre x
  out := fun (x : RaS) => out2 0 (runF raStp (raMu x + 1) x)
theorem ra_round : (fun x : RaS => roundOf (mkC tys raddG [(0, raD.spec)]) raD (loopB 0 (bodyOf (fnOf Tryz.prog 51))) x) = (fun x => Tree.br (decide (x.1.2.2.2.2.2.2.1 < x.1.2.2.2.2.2.1)) (Tree.need ((0 : Int) ≤ x.1.2.2.2.2.2.2.1 ∧ x.1.2.2.2.2.2.2.1 < (↑(List.length x.1.2.2.2.2.1) : Int)) (Tree.br (decide ((List.getD x.1.2.2.2.2.1 (Int.toNat x.1.2.2.2.2.2.2.1) ((0 : Int), [], (0 : Int), (0 : Int))).1 ≥ x.1.2.1)) (Tree.leaf (Ex.ret, some ((x.1.1, x.1.2.1, x.1.1, (10 : Int), x.1.2.2.2.2.1, x.1.2.2.2.2.2.1, x.1.2.2.2.2.2.2.1, ()), ()))) (Tree.leaf (Ex.normal, some ((x.1.1, x.1.2.1, x.1.2.2.1, x.1.2.2.2.1, x.1.2.2.2.2.1, x.1.2.2.2.2.2.1, IntKind.wrap IntKind.i64 (x.1.2.2.2.2.2.2.1 + (1 : Int)), ()), ()))))) (Tree.leaf (Ex.exit (0 : Nat), some ((x.1.1, x.1.2.1, x.1.2.2.1, x.1.2.2.2.1, x.1.2.2.2.2.1, x.1.2.2.2.2.2.1, x.1.2.2.2.2.2.2.1, ()), ())))) := by kernel_rfl
theorem ra_loop : LoopOK (mkC tys raddG [(0, raD.spec)]) raD.spec (loopB 0 (bodyOf (fnOf Tryz.prog 51))) :=
  loopF2_ok (id := 0) (D := raD) (fun x => congrFun ra_round x) raStp raMu (fun _ => rfl) raStp_ends fun (x : RaS) hp => by
    refine ⟨?_, fun hn => ra_go hp hn⟩
    obtain ⟨⟨l0, q, r, e, l, len, i, ⟨⟩⟩, ⟨⟩⟩ := x
    obtain ⟨h1, h2, h3, h4⟩ := hp
    simp only at h1 h2 h3 h4
    have hz : ((0 : Int), ([] : List UInt8), (0 : Int), (0 : Int)) = kept0 := rfl
    simp only [Tree.holds, raStp, hz]
    refine ⟨fun h => ?_, fun h => by rw [h]; rfl⟩
    have h' : i < len := of_decide_eq_true h
    refine ⟨⟨h1, by omega⟩, fun g => by rw [h, g]; rfl, fun g => ?_⟩
    rw [h, g, i64_id (n := i + 1) (by omega) (by omega)]; rfl
def raddC : Ctr := { args := [.sl gKept, .int .i64, .str, gRules], res := [.sl gKept, .int .i64], pre := none, fn := fun (x : List DKept × Int × List UInt8 × DRules) => addF x.1 x.2.1 x.2.2.1 x.2.2.2 }
theorem radd_tree : (fun x : List DKept × Int × List UInt8 × DRules => evFn (mkC tys raddG [(0, raD.spec)]) (fnOf Tryz.prog 51) (resL raddC.args x) raddC.res) = (fun x => Tree.br (bif !nearF x.2.1 then true else decide (x.2.2.2.2.2.1 < (1 : Int))) (Tree.leaf (x.1, (1 : Int))) (Tree.br (decide ((↑(List.length x.1) : Int) ≥ (8 : Int))) (Tree.leaf (x.1, (8 : Int))) (Tree.need (raPre ((x.1, x.2.1, [], (0 : Int), x.1, (↑(List.length x.1) : Int), (0 : Int), PUnit.unit), PUnit.unit)) (Tree.br (isRet (runF raStp (raMu ((x.1, x.2.1, [], (0 : Int), x.1, (↑(List.length x.1) : Int), (0 : Int), PUnit.unit), PUnit.unit) + (1 : Nat)) ((x.1, x.2.1, [], (0 : Int), x.1, (↑(List.length x.1) : Int), (0 : Int), PUnit.unit), PUnit.unit)).1) (Tree.leaf ((runF raStp (raMu ((x.1, x.2.1, [], (0 : Int), x.1, (↑(List.length x.1) : Int), (0 : Int), PUnit.unit), PUnit.unit) + (1 : Nat)) ((x.1, x.2.1, [], (0 : Int), x.1, (↑(List.length x.1) : Int), (0 : Int), PUnit.unit), PUnit.unit)).2.1.2.2.1, (runF raStp (raMu ((x.1, x.2.1, [], (0 : Int), x.1, (↑(List.length x.1) : Int), (0 : Int), PUnit.unit), PUnit.unit) + (1 : Nat)) ((x.1, x.2.1, [], (0 : Int), x.1, (↑(List.length x.1) : Int), (0 : Int), PUnit.unit), PUnit.unit)).2.1.2.2.2.1)) (Tree.need (List.length (runF raStp (raMu ((x.1, x.2.1, [], (0 : Int), x.1, (↑(List.length x.1) : Int), (0 : Int), PUnit.unit), PUnit.unit) + (1 : Nat)) ((x.1, x.2.1, [], (0 : Int), x.1, (↑(List.length x.1) : Int), (0 : Int), PUnit.unit), PUnit.unit)).2.1.1 * (40 : Nat) ≤ (140737488355328 : Nat)) (Tree.need ((List.length (runF raStp (raMu ((x.1, x.2.1, [], (0 : Int), x.1, (↑(List.length x.1) : Int), (0 : Int), PUnit.unit), PUnit.unit) + (1 : Nat)) ((x.1, x.2.1, [], (0 : Int), x.1, (↑(List.length x.1) : Int), (0 : Int), PUnit.unit), PUnit.unit)).2.1.1 + (1 : Nat)) * (40 : Nat) ≤ (140737488355328 : Nat)) (Tree.leaf ((runF raStp (raMu ((x.1, x.2.1, [], (0 : Int), x.1, (↑(List.length x.1) : Int), (0 : Int), PUnit.unit), PUnit.unit) + (1 : Nat)) ((x.1, x.2.1, [], (0 : Int), x.1, (↑(List.length x.1) : Int), (0 : Int), PUnit.unit), PUnit.unit)).2.1.1 ++ [((runF raStp (raMu ((x.1, x.2.1, [], (0 : Int), x.1, (↑(List.length x.1) : Int), (0 : Int), PUnit.unit), PUnit.unit) + (1 : Nat)) ((x.1, x.2.1, [], (0 : Int), x.1, (↑(List.length x.1) : Int), (0 : Int), PUnit.unit), PUnit.unit)).2.1.2.1, x.2.2.1, (1 : Int), x.2.2.2.2.2.1)], (0 : Int))))))))) := by kernel_rfl
theorem radd_ok : CtrOK Tryz.prog 51 raddC :=
  fun_ok (G := raddG) (Λ := [(0, raD.spec)]) tysOK raddG_ok mixed (by kernel_rfl) (by kernel_rfl) (by kernel_rfl) (by kernel_rfl) (lp_cons ra_loop lp_nil) fun (x : List DKept × Int × List UInt8 × DRules) hw _ => by
    rw [congrFun radd_tree x]
    have e : raddC.fn x = addF x.1 x.2.1 x.2.2.1 x.2.2.2 := rfl
    rw [e]
    unfold addF
    simp only [Tree.holds]
    refine ⟨fun h => by rw [h]; rfl, fun h => ⟨fun g => by rw [h, g]; rfl, fun g => ?_⟩⟩
    have g' : ¬ (x.1.length : Int) ≥ 8 := of_decide_eq_false g
    have hp2 : raPre ((x.1, x.2.1, [], (0 : Int), x.1, (x.1.length : Int), (0 : Int), ()), ()) := ⟨Int.le_refl _, by show (0 : Int) ≤ (x.1.length : Int); omega, rfl, by show (x.1.length : Int) ≤ 100000; omega⟩
    have key := ra_run x.1 x.2.1 _ _ hp2 rfl rfl rfl (Nat.lt_succ_self _)
    rw [h, g]
    simp only [cond_false]
    refine ⟨hp2, ?_⟩
    revert key
    generalize runF raStp _ _ = w
    rintro ⟨k1, k2, k3, k4⟩
    have ed : (x.1.drop (0 : Int).toNat) = x.1 := rfl
    simp only [ed] at k1 k3
    refine ⟨fun k => ?_, fun k => ?_⟩
    · rw [k] at k1
      rw [← k1] at k3 ⊢
      obtain ⟨k5, k6⟩ := k3 rfl
      rw [k5, k6]; rfl
    · rw [k] at k1
      rw [← k1, k2, k4]
      refine ⟨by omega, by rw [k2] at *; omega, ?_⟩
      rfl
def rtD : LoopD where
  prom := [(8, 1008, 9, .str)]
  ts := [(3, .ptr 3 gRules), (7, .tip 12), (8, .tip 1008), (9, .val .bool), (14, .val (.int .i64)), (15, .val (.int .i64))]
  bs := [(3, .var gRules), (12, .row 164 gKept false), (1008, .row 9 .str false)]
  pre := fun (x : RtS) => rtPre x
  out := fun (x : RtS) => .leaf (.exit 0, ((x.1.1 || (x.2.2.1.drop x.1.2.2.1.toNat).any (deadB x.2.1), x.1.2.1, x.1.2.1, ()), (x.2.1, x.2.2.1.take x.1.2.2.1.toNat ++ (x.2.2.1.drop x.1.2.2.1.toNat).map (tick1 x.2.1), x.2.2.2.1 ++ ((x.2.2.1.drop x.1.2.2.1.toNat).filter (againB x.2.1)).map (·.2.1), ())))
theorem rt_round : (fun x : RtS => roundOf (mkC tys [] [(0, rtD.spec)]) rtD (loopB 0 (bodyOf (fnOf Tryz.prog 70))) x) = (fun x => Tree.br (decide (x.1.2.2.1 < x.1.2.1)) (Tree.need ((0 : Int) ≤ x.1.2.2.1 ∧ x.1.2.2.1 < (↑(List.length x.2.2.1) : Int)) (Tree.need (decide ((List.getD x.2.2.1 (Int.toNat x.1.2.2.1) ((0 : Int), [], (0 : Int), (0 : Int))).2.2.2 > (1 : Int)) = true → (0 : Int) ≤ x.1.2.2.1 ∧ x.1.2.2.1 < (↑(List.length x.2.2.1) : Int)) (Tree.need (decide ((List.getD x.2.2.1 (Int.toNat x.1.2.2.1) ((0 : Int), [], (0 : Int), (0 : Int))).2.2.2 > (1 : Int)) = true → (0 : Int) ≤ x.1.2.2.1 ∧ x.1.2.2.1 < (↑(List.length x.2.2.1) : Int)) (Tree.need ((!decide ((List.getD x.2.2.1 (Int.toNat x.1.2.2.1) ((0 : Int), [], (0 : Int), (0 : Int))).2.2.2 > (1 : Int))) = true → (0 : Int) ≤ x.1.2.2.1 ∧ x.1.2.2.1 < (↑(List.length x.2.2.1) : Int)) (Tree.need ((!decide ((List.getD x.2.2.1 (Int.toNat x.1.2.2.1) ((0 : Int), [], (0 : Int), (0 : Int))).2.2.2 > (1 : Int))) = true → (!decide ((List.getD x.2.2.1 (Int.toNat x.1.2.2.1) ((0 : Int), [], (0 : Int), (0 : Int))).2.2.1 ≥ x.2.1.2.2.2)) = true → (0 : Int) ≤ x.1.2.2.1 ∧ x.1.2.2.1 < (↑(List.length x.2.2.1) : Int)) (Tree.need ((!decide ((List.getD x.2.2.1 (Int.toNat x.1.2.2.1) ((0 : Int), [], (0 : Int), (0 : Int))).2.2.2 > (1 : Int))) = true → (!decide ((List.getD x.2.2.1 (Int.toNat x.1.2.2.1) ((0 : Int), [], (0 : Int), (0 : Int))).2.2.1 ≥ x.2.1.2.2.2)) = true → (0 : Int) ≤ x.1.2.2.1 ∧ x.1.2.2.1 < (↑(List.length x.2.2.1) : Int)) (Tree.need ((!decide ((List.getD x.2.2.1 (Int.toNat x.1.2.2.1) ((0 : Int), [], (0 : Int), (0 : Int))).2.2.2 > (1 : Int))) = true → (!decide ((List.getD x.2.2.1 (Int.toNat x.1.2.2.1) ((0 : Int), [], (0 : Int), (0 : Int))).2.2.1 ≥ x.2.1.2.2.2)) = true → (0 : Int) ≤ x.1.2.2.1 ∧ x.1.2.2.1 < (↑(List.length (List.set x.2.2.1 (Int.toNat x.1.2.2.1) ((List.getD x.2.2.1 (Int.toNat x.1.2.2.1) ((0 : Int), [], (0 : Int), (0 : Int))).1, (List.getD x.2.2.1 (Int.toNat x.1.2.2.1) ((0 : Int), [], (0 : Int), (0 : Int))).2.1, IntKind.wrap IntKind.i64 ((List.getD x.2.2.1 (Int.toNat x.1.2.2.1) ((0 : Int), [], (0 : Int), (0 : Int))).2.2.1 + (1 : Int)), (List.getD x.2.2.1 (Int.toNat x.1.2.2.1) ((0 : Int), [], (0 : Int), (0 : Int))).2.2.2))) : Int)) (Tree.need ((!decide ((List.getD x.2.2.1 (Int.toNat x.1.2.2.1) ((0 : Int), [], (0 : Int), (0 : Int))).2.2.2 > (1 : Int))) = true → (!decide ((List.getD x.2.2.1 (Int.toNat x.1.2.2.1) ((0 : Int), [], (0 : Int), (0 : Int))).2.2.1 ≥ x.2.1.2.2.2)) = true → (0 : Int) ≤ x.1.2.2.1 ∧ x.1.2.2.1 < (↑(List.length (List.set (List.set x.2.2.1 (Int.toNat x.1.2.2.1) ((List.getD x.2.2.1 (Int.toNat x.1.2.2.1) ((0 : Int), [], (0 : Int), (0 : Int))).1, (List.getD x.2.2.1 (Int.toNat x.1.2.2.1) ((0 : Int), [], (0 : Int), (0 : Int))).2.1, IntKind.wrap IntKind.i64 ((List.getD x.2.2.1 (Int.toNat x.1.2.2.1) ((0 : Int), [], (0 : Int), (0 : Int))).2.2.1 + (1 : Int)), (List.getD x.2.2.1 (Int.toNat x.1.2.2.1) ((0 : Int), [], (0 : Int), (0 : Int))).2.2.2)) (Int.toNat x.1.2.2.1) ((List.getD (List.set x.2.2.1 (Int.toNat x.1.2.2.1) ((List.getD x.2.2.1 (Int.toNat x.1.2.2.1) ((0 : Int), [], (0 : Int), (0 : Int))).1, (List.getD x.2.2.1 (Int.toNat x.1.2.2.1) ((0 : Int), [], (0 : Int), (0 : Int))).2.1, IntKind.wrap IntKind.i64 ((List.getD x.2.2.1 (Int.toNat x.1.2.2.1) ((0 : Int), [], (0 : Int), (0 : Int))).2.2.1 + (1 : Int)), (List.getD x.2.2.1 (Int.toNat x.1.2.2.1) ((0 : Int), [], (0 : Int), (0 : Int))).2.2.2)) (Int.toNat x.1.2.2.1) ((0 : Int), [], (0 : Int), (0 : Int))).1, (List.getD (List.set x.2.2.1 (Int.toNat x.1.2.2.1) ((List.getD x.2.2.1 (Int.toNat x.1.2.2.1) ((0 : Int), [], (0 : Int), (0 : Int))).1, (List.getD x.2.2.1 (Int.toNat x.1.2.2.1) ((0 : Int), [], (0 : Int), (0 : Int))).2.1, IntKind.wrap IntKind.i64 ((List.getD x.2.2.1 (Int.toNat x.1.2.2.1) ((0 : Int), [], (0 : Int), (0 : Int))).2.2.1 + (1 : Int)), (List.getD x.2.2.1 (Int.toNat x.1.2.2.1) ((0 : Int), [], (0 : Int), (0 : Int))).2.2.2)) (Int.toNat x.1.2.2.1) ((0 : Int), [], (0 : Int), (0 : Int))).2.1, (List.getD (List.set x.2.2.1 (Int.toNat x.1.2.2.1) ((List.getD x.2.2.1 (Int.toNat x.1.2.2.1) ((0 : Int), [], (0 : Int), (0 : Int))).1, (List.getD x.2.2.1 (Int.toNat x.1.2.2.1) ((0 : Int), [], (0 : Int), (0 : Int))).2.1, IntKind.wrap IntKind.i64 ((List.getD x.2.2.1 (Int.toNat x.1.2.2.1) ((0 : Int), [], (0 : Int), (0 : Int))).2.2.1 + (1 : Int)), (List.getD x.2.2.1 (Int.toNat x.1.2.2.1) ((0 : Int), [], (0 : Int), (0 : Int))).2.2.2)) (Int.toNat x.1.2.2.1) ((0 : Int), [], (0 : Int), (0 : Int))).2.2.1, x.2.1.2.2.1))) : Int)) (Tree.need ((!decide ((List.getD x.2.2.1 (Int.toNat x.1.2.2.1) ((0 : Int), [], (0 : Int), (0 : Int))).2.2.2 > (1 : Int))) = true → (!decide ((List.getD x.2.2.1 (Int.toNat x.1.2.2.1) ((0 : Int), [], (0 : Int), (0 : Int))).2.2.1 ≥ x.2.1.2.2.2)) = true → (List.length x.2.2.2.1 + (1 : Nat)) * (16 : Nat) ≤ (140737488355328 : Nat)) (Tree.leaf (Ex.normal, some ((bif decide ((List.getD x.2.2.1 (Int.toNat x.1.2.2.1) ((0 : Int), [], (0 : Int), (0 : Int))).2.2.2 > (1 : Int)) then x.1.1 else bif decide ((List.getD x.2.2.1 (Int.toNat x.1.2.2.1) ((0 : Int), [], (0 : Int), (0 : Int))).2.2.1 ≥ x.2.1.2.2.2) then true else x.1.1, x.1.2.1, IntKind.wrap IntKind.i64 (x.1.2.2.1 + (1 : Int)), ()), x.2.1, bif decide ((List.getD x.2.2.1 (Int.toNat x.1.2.2.1) ((0 : Int), [], (0 : Int), (0 : Int))).2.2.2 > (1 : Int)) then List.set x.2.2.1 (Int.toNat x.1.2.2.1) ((List.getD x.2.2.1 (Int.toNat x.1.2.2.1) ((0 : Int), [], (0 : Int), (0 : Int))).1, (List.getD x.2.2.1 (Int.toNat x.1.2.2.1) ((0 : Int), [], (0 : Int), (0 : Int))).2.1, (List.getD x.2.2.1 (Int.toNat x.1.2.2.1) ((0 : Int), [], (0 : Int), (0 : Int))).2.2.1, IntKind.wrap IntKind.i64 ((List.getD x.2.2.1 (Int.toNat x.1.2.2.1) ((0 : Int), [], (0 : Int), (0 : Int))).2.2.2 - (1 : Int))) else bif decide ((List.getD x.2.2.1 (Int.toNat x.1.2.2.1) ((0 : Int), [], (0 : Int), (0 : Int))).2.2.1 ≥ x.2.1.2.2.2) then x.2.2.1 else List.set (List.set x.2.2.1 (Int.toNat x.1.2.2.1) ((List.getD x.2.2.1 (Int.toNat x.1.2.2.1) ((0 : Int), [], (0 : Int), (0 : Int))).1, (List.getD x.2.2.1 (Int.toNat x.1.2.2.1) ((0 : Int), [], (0 : Int), (0 : Int))).2.1, IntKind.wrap IntKind.i64 ((List.getD x.2.2.1 (Int.toNat x.1.2.2.1) ((0 : Int), [], (0 : Int), (0 : Int))).2.2.1 + (1 : Int)), (List.getD x.2.2.1 (Int.toNat x.1.2.2.1) ((0 : Int), [], (0 : Int), (0 : Int))).2.2.2)) (Int.toNat x.1.2.2.1) ((List.getD (List.set x.2.2.1 (Int.toNat x.1.2.2.1) ((List.getD x.2.2.1 (Int.toNat x.1.2.2.1) ((0 : Int), [], (0 : Int), (0 : Int))).1, (List.getD x.2.2.1 (Int.toNat x.1.2.2.1) ((0 : Int), [], (0 : Int), (0 : Int))).2.1, IntKind.wrap IntKind.i64 ((List.getD x.2.2.1 (Int.toNat x.1.2.2.1) ((0 : Int), [], (0 : Int), (0 : Int))).2.2.1 + (1 : Int)), (List.getD x.2.2.1 (Int.toNat x.1.2.2.1) ((0 : Int), [], (0 : Int), (0 : Int))).2.2.2)) (Int.toNat x.1.2.2.1) ((0 : Int), [], (0 : Int), (0 : Int))).1, (List.getD (List.set x.2.2.1 (Int.toNat x.1.2.2.1) ((List.getD x.2.2.1 (Int.toNat x.1.2.2.1) ((0 : Int), [], (0 : Int), (0 : Int))).1, (List.getD x.2.2.1 (Int.toNat x.1.2.2.1) ((0 : Int), [], (0 : Int), (0 : Int))).2.1, IntKind.wrap IntKind.i64 ((List.getD x.2.2.1 (Int.toNat x.1.2.2.1) ((0 : Int), [], (0 : Int), (0 : Int))).2.2.1 + (1 : Int)), (List.getD x.2.2.1 (Int.toNat x.1.2.2.1) ((0 : Int), [], (0 : Int), (0 : Int))).2.2.2)) (Int.toNat x.1.2.2.1) ((0 : Int), [], (0 : Int), (0 : Int))).2.1, (List.getD (List.set x.2.2.1 (Int.toNat x.1.2.2.1) ((List.getD x.2.2.1 (Int.toNat x.1.2.2.1) ((0 : Int), [], (0 : Int), (0 : Int))).1, (List.getD x.2.2.1 (Int.toNat x.1.2.2.1) ((0 : Int), [], (0 : Int), (0 : Int))).2.1, IntKind.wrap IntKind.i64 ((List.getD x.2.2.1 (Int.toNat x.1.2.2.1) ((0 : Int), [], (0 : Int), (0 : Int))).2.2.1 + (1 : Int)), (List.getD x.2.2.1 (Int.toNat x.1.2.2.1) ((0 : Int), [], (0 : Int), (0 : Int))).2.2.2)) (Int.toNat x.1.2.2.1) ((0 : Int), [], (0 : Int), (0 : Int))).2.2.1, x.2.1.2.2.1), bif decide ((List.getD x.2.2.1 (Int.toNat x.1.2.2.1) ((0 : Int), [], (0 : Int), (0 : Int))).2.2.2 > (1 : Int)) then x.2.2.2.1 else bif decide ((List.getD x.2.2.1 (Int.toNat x.1.2.2.1) ((0 : Int), [], (0 : Int), (0 : Int))).2.2.1 ≥ x.2.1.2.2.2) then x.2.2.2.1 else x.2.2.2.1 ++ [(List.getD (List.set (List.set x.2.2.1 (Int.toNat x.1.2.2.1) ((List.getD x.2.2.1 (Int.toNat x.1.2.2.1) ((0 : Int), [], (0 : Int), (0 : Int))).1, (List.getD x.2.2.1 (Int.toNat x.1.2.2.1) ((0 : Int), [], (0 : Int), (0 : Int))).2.1, IntKind.wrap IntKind.i64 ((List.getD x.2.2.1 (Int.toNat x.1.2.2.1) ((0 : Int), [], (0 : Int), (0 : Int))).2.2.1 + (1 : Int)), (List.getD x.2.2.1 (Int.toNat x.1.2.2.1) ((0 : Int), [], (0 : Int), (0 : Int))).2.2.2)) (Int.toNat x.1.2.2.1) ((List.getD (List.set x.2.2.1 (Int.toNat x.1.2.2.1) ((List.getD x.2.2.1 (Int.toNat x.1.2.2.1) ((0 : Int), [], (0 : Int), (0 : Int))).1, (List.getD x.2.2.1 (Int.toNat x.1.2.2.1) ((0 : Int), [], (0 : Int), (0 : Int))).2.1, IntKind.wrap IntKind.i64 ((List.getD x.2.2.1 (Int.toNat x.1.2.2.1) ((0 : Int), [], (0 : Int), (0 : Int))).2.2.1 + (1 : Int)), (List.getD x.2.2.1 (Int.toNat x.1.2.2.1) ((0 : Int), [], (0 : Int), (0 : Int))).2.2.2)) (Int.toNat x.1.2.2.1) ((0 : Int), [], (0 : Int), (0 : Int))).1, (List.getD (List.set x.2.2.1 (Int.toNat x.1.2.2.1) ((List.getD x.2.2.1 (Int.toNat x.1.2.2.1) ((0 : Int), [], (0 : Int), (0 : Int))).1, (List.getD x.2.2.1 (Int.toNat x.1.2.2.1) ((0 : Int), [], (0 : Int), (0 : Int))).2.1, IntKind.wrap IntKind.i64 ((List.getD x.2.2.1 (Int.toNat x.1.2.2.1) ((0 : Int), [], (0 : Int), (0 : Int))).2.2.1 + (1 : Int)), (List.getD x.2.2.1 (Int.toNat x.1.2.2.1) ((0 : Int), [], (0 : Int), (0 : Int))).2.2.2)) (Int.toNat x.1.2.2.1) ((0 : Int), [], (0 : Int), (0 : Int))).2.1, (List.getD (List.set x.2.2.1 (Int.toNat x.1.2.2.1) ((List.getD x.2.2.1 (Int.toNat x.1.2.2.1) ((0 : Int), [], (0 : Int), (0 : Int))).1, (List.getD x.2.2.1 (Int.toNat x.1.2.2.1) ((0 : Int), [], (0 : Int), (0 : Int))).2.1, IntKind.wrap IntKind.i64 ((List.getD x.2.2.1 (Int.toNat x.1.2.2.1) ((0 : Int), [], (0 : Int), (0 : Int))).2.2.1 + (1 : Int)), (List.getD x.2.2.1 (Int.toNat x.1.2.2.1) ((0 : Int), [], (0 : Int), (0 : Int))).2.2.2)) (Int.toNat x.1.2.2.1) ((0 : Int), [], (0 : Int), (0 : Int))).2.2.1, x.2.1.2.2.1)) (Int.toNat x.1.2.2.1) ((0 : Int), [], (0 : Int), (0 : Int))).2.1], ())))))))))))) (Tree.leaf (Ex.exit (0 : Nat), some ((x.1.1, x.1.2.1, x.1.2.2.1, ()), x.2.1, x.2.2.1, x.2.2.2.1, ())))) := by kernel_rfl
def rtickC : Ctr := { args := [.sl gKept, gRules], res := [.sl gKept, .sl .str, .bool], pre := some (fun (x : List DKept × DRules) => x.1.length ≤ 100000), fn := fun (x : List DKept × DRules) => ktickF x.1 x.2 }
theorem rtick_tree : (fun x : List DKept × DRules => evFn (mkC tys [] [(0, rtD.spec)]) (fnOf Tryz.prog 70) (resL rtickC.args x) rtickC.res) = (fun x => Tree.need (List.length x.1 * (40 : Nat) ≤ (140737488355328 : Nat)) (Tree.need (rtPre ((false, (↑(List.length x.1) : Int), (0 : Int), PUnit.unit), x.2, x.1, [], PUnit.unit)) (Tree.leaf (List.take (Int.toNat (0 : Int)) x.1 ++ List.map (tick1 x.2) (List.drop (Int.toNat (0 : Int)) x.1), [] ++ List.map (fun x => x.2.1) (List.filter (againB x.2) (List.drop (Int.toNat (0 : Int)) x.1)), false || List.any (List.drop (Int.toNat (0 : Int)) x.1) (deadB x.2))))) := by kernel_rfl
end Go.Ev.Z
