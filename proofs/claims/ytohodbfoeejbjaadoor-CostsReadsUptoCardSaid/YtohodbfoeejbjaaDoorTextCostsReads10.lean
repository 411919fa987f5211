/- strings.Cut, Index, Split: laid at this seat by the kit's tools. -/
import Derived.Shelf.LaysM
import Derived.Shelf.Strings.Search1
import Derived.Shelf.Strings.Search2
import Derived.Shelf.Strings.Search3
import Derived.Shelf.Strings.Cut
import Derived.Shelf.Strings.Count
import Derived.Shelf.Strings.Split
import Derived.Test.YtohodbfoeejbjaaDoorProg
import Derived.Shelf.Pu.ParseUintPublic10
import Derived.Test.YtohodbfoeejbjaaDoorTextCostsReads9

namespace Go.Proofs
open Go.Shelf
def Tryd.lays143_ren : Go.Shelf.Ren := ⟨fun | 143 => 157 | 219 => 166 | 217 => 180 | 225 => 181 | 224 => 182 | 267 => 183 | 266 => 187 | 314 => 188 | n => n, fun | 9 => 9 | 3 => 3 | 4 => 4 | 5 => 5 | 46 => 46 | 146 => 175 | 51 => 33 | n => n, fun | 1 => 3 | n => n⟩
theorem Tryd.lays143 : Go.Proofs.Lays.n143 Tryd.prog Tryd.lays143_ren := {
  mixed := by kernel_rfl
  f143 := Tryd.func157.trans (congrArg some (by kernel_rfl))
  f217 := Tryd.func180.trans (congrArg some (by kernel_rfl))
  f219 := Tryd.func166.trans (congrArg some (by kernel_rfl))
  f224 := Tryd.func182.trans (congrArg some (by kernel_rfl))
  f225 := Tryd.func181.trans (congrArg some (by kernel_rfl))
  f266 := Tryd.func187.trans (congrArg some (by kernel_rfl))
  f267 := Tryd.func183.trans (congrArg some (by kernel_rfl))
  f314 := Tryd.func188.trans (congrArg some (by kernel_rfl))
  t3 := Tryd.underlying3
  a3 := Tryd.isAgg3
  z3 := Tryd.sizeOf3
  v3 := Tryd.zeroValue3
  t4 := Tryd.underlying4
  a4 := Tryd.isAgg4
  z4 := Tryd.sizeOf4
  v4 := Tryd.zeroValue4
  t5 := Tryd.underlying5
  a5 := Tryd.isAgg5
  z5 := Tryd.sizeOf5
  v5 := Tryd.zeroValue5
  t9 := Tryd.underlying9
  a9 := Tryd.isAgg9
  z9 := Tryd.sizeOf9
  v9 := Tryd.zeroValue9
  t46 := Tryd.underlying46
  a46 := Tryd.isAgg46
  z46 := Tryd.sizeOf46
  v46 := Tryd.zeroValue46
  t51 := Tryd.underlying33
  a51 := Tryd.isAgg33
  z51 := Tryd.sizeOf33
  v51 := Tryd.zeroValue33
  t146 := Tryd.underlying175
  a146 := Tryd.isAgg175
  z146 := Tryd.sizeOf175
  v146 := Tryd.zeroValue175
  g1 := by kernel_rfl }
open Go.RowKit Go.Lib in
/-- strings.Index: "Index returns the index of the first instance of substr in s, or -1 if substr is not present in s.": IT RETURNS 'Lib.index s substr'; the world is as it was. (LAID: no walk: one application.) -/
theorem Tryd.strings_Index (s sub : ByteArray) (m : Int) (w : World) (hs : s.size < 4294967281) (hm : w.cell? ⟨3, 0, none⟩ = some (.int .i64 m)) :
    Calls Tryd.prog 157 #[.string s, .string sub] w fun e w' => e = .returned (.int .i64 (Lib.index s.data.toList sub.data.toList)) ∧ w' = w := Any.strings_Index Tryd.lays143 s sub m w hs hm
def Tryd.lays145_ren : Go.Shelf.Ren := ⟨fun | 145 => 132 | 220 => 147 | 219 => 166 | 217 => 180 | 225 => 181 | 224 => 182 | 267 => 183 | 266 => 187 | 314 => 188 | n => n, fun | 9 => 9 | 4 => 4 | 59 => 131 | 3 => 3 | 5 => 5 | 46 => 46 | 146 => 175 | 51 => 33 | n => n, fun | 1 => 3 | n => n⟩
theorem Tryd.lays145 : Go.Proofs.Lays.n145 Tryd.prog Tryd.lays145_ren := {
  mixed := by kernel_rfl
  f145 := Tryd.func132.trans (congrArg some (by kernel_rfl))
  f217 := Tryd.func180.trans (congrArg some (by kernel_rfl))
  f219 := Tryd.func166.trans (congrArg some (by kernel_rfl))
  f220 := Tryd.func147.trans (congrArg some (by kernel_rfl))
  f224 := Tryd.func182.trans (congrArg some (by kernel_rfl))
  f225 := Tryd.func181.trans (congrArg some (by kernel_rfl))
  f266 := Tryd.func187.trans (congrArg some (by kernel_rfl))
  f267 := Tryd.func183.trans (congrArg some (by kernel_rfl))
  f314 := Tryd.func188.trans (congrArg some (by kernel_rfl))
  t3 := Tryd.underlying3
  a3 := Tryd.isAgg3
  z3 := Tryd.sizeOf3
  v3 := Tryd.zeroValue3
  t4 := Tryd.underlying4
  a4 := Tryd.isAgg4
  z4 := Tryd.sizeOf4
  v4 := Tryd.zeroValue4
  t5 := Tryd.underlying5
  a5 := Tryd.isAgg5
  z5 := Tryd.sizeOf5
  v5 := Tryd.zeroValue5
  t9 := Tryd.underlying9
  a9 := Tryd.isAgg9
  z9 := Tryd.sizeOf9
  v9 := Tryd.zeroValue9
  t46 := Tryd.underlying46
  a46 := Tryd.isAgg46
  z46 := Tryd.sizeOf46
  v46 := Tryd.zeroValue46
  t51 := Tryd.underlying33
  a51 := Tryd.isAgg33
  z51 := Tryd.sizeOf33
  v51 := Tryd.zeroValue33
  t59 := Tryd.underlying131
  a59 := Tryd.isAgg131
  z59 := Tryd.sizeOf131
  v59 := Tryd.zeroValue131
  t146 := Tryd.underlying175
  a146 := Tryd.isAgg175
  z146 := Tryd.sizeOf175
  v146 := Tryd.zeroValue175
  g1 := by kernel_rfl }
open Go.RowKit Go.Lib in
/-- strings.Cut: "Cut slices s around the first instance of sep, returning the text before and after sep. The found result reports whether sep appears in s. If sep does not appear in s, cut returns s, "", false.": IT RETURNS 'Lib.cut s sep'; the world is as it was but for the count of draws. (LAID: no walk: one application.) -/
theorem Tryd.strings_Cut (s sep : ByteArray) (m : Int) (w : World) (hs : s.size < 4294967281) (hm : w.cell? ⟨3, 0, none⟩ = some (.int .i64 m)) :
    Calls Tryd.prog 132 #[.string s, .string sep] w fun e w' => e = .returned (.tuple #[.string ⟨(Lib.cut s.data.toList sep.data.toList).1.toArray⟩, .string ⟨(Lib.cut s.data.toList sep.data.toList).2.1.toArray⟩, .bool (Lib.cut s.data.toList sep.data.toList).2.2]) ∧ ∃ n, w' = w.drewN n := Any.strings_Cut Tryd.lays145 s sep m w hs hm
def Tryd.lays146_ren : Go.Shelf.Ren := ⟨fun | 146 => 167 | 221 => 184 | 268 => 189 | 138 => 190 | 143 => 157 | 195 => 191 | 197 => 192 | 218 => 193 | 219 => 166 | 260 => 194 | 217 => 180 | 225 => 181 | 224 => 182 | 267 => 183 | 266 => 187 | 314 => 188 | n => n, fun | 9 => 9 | 31 => 119 | 3 => 3 | 4 => 4 | 0 => 0 | 105 => 181 | 21 => 21 | 5 => 5 | 46 => 46 | 119 => 183 | 139 => 186 | 138 => 185 | 146 => 175 | 51 => 33 | n => n, fun | 1 => 3 | 3 => 6 | 4 => 7 | n => n⟩
theorem Tryd.lays146 : Go.Proofs.Lays.n146 Tryd.prog Tryd.lays146_ren := {
  mixed := by kernel_rfl
  f138 := Tryd.func190.trans (congrArg some (by kernel_rfl))
  f143 := Tryd.func157.trans (congrArg some (by kernel_rfl))
  f146 := Tryd.func167.trans (congrArg some (by kernel_rfl))
  f195 := Tryd.func191.trans (congrArg some (by kernel_rfl))
  f197 := Tryd.func192.trans (congrArg some (by kernel_rfl))
  f217 := Tryd.func180.trans (congrArg some (by kernel_rfl))
  f218 := Tryd.func193.trans (congrArg some (by kernel_rfl))
  f219 := Tryd.func166.trans (congrArg some (by kernel_rfl))
  f221 := Tryd.func184.trans (congrArg some (by kernel_rfl))
  f224 := Tryd.func182.trans (congrArg some (by kernel_rfl))
  f225 := Tryd.func181.trans (congrArg some (by kernel_rfl))
  f260 := Tryd.func194.trans (congrArg some (by kernel_rfl))
  f266 := Tryd.func187.trans (congrArg some (by kernel_rfl))
  f267 := Tryd.func183.trans (congrArg some (by kernel_rfl))
  f268 := Tryd.func189.trans (congrArg some (by kernel_rfl))
  f314 := Tryd.func188.trans (congrArg some (by kernel_rfl))
  t0 := Tryd.underlying0
  a0 := Tryd.isAgg0
  z0 := Tryd.sizeOf0
  v0 := Tryd.zeroValue0
  t3 := Tryd.underlying3
  a3 := Tryd.isAgg3
  z3 := Tryd.sizeOf3
  v3 := Tryd.zeroValue3
  t4 := Tryd.underlying4
  a4 := Tryd.isAgg4
  z4 := Tryd.sizeOf4
  v4 := Tryd.zeroValue4
  t5 := Tryd.underlying5
  a5 := Tryd.isAgg5
  z5 := Tryd.sizeOf5
  v5 := Tryd.zeroValue5
  t9 := Tryd.underlying9
  a9 := Tryd.isAgg9
  z9 := Tryd.sizeOf9
  v9 := Tryd.zeroValue9
  t21 := Tryd.underlying21
  a21 := Tryd.isAgg21
  z21 := Tryd.sizeOf21
  v21 := Tryd.zeroValue21
  t31 := Tryd.underlying119
  a31 := Tryd.isAgg119
  z31 := Tryd.sizeOf119
  v31 := Tryd.zeroValue119
  t46 := Tryd.underlying46
  a46 := Tryd.isAgg46
  z46 := Tryd.sizeOf46
  v46 := Tryd.zeroValue46
  t51 := Tryd.underlying33
  a51 := Tryd.isAgg33
  z51 := Tryd.sizeOf33
  v51 := Tryd.zeroValue33
  t105 := Tryd.underlying181
  a105 := Tryd.isAgg181
  z105 := Tryd.sizeOf181
  v105 := Tryd.zeroValue181
  t119 := Tryd.underlying183
  a119 := Tryd.isAgg183
  z119 := Tryd.sizeOf183
  t138 := Tryd.underlying185
  a138 := Tryd.isAgg185
  z138 := Tryd.sizeOf185
  v138 := Tryd.zeroValue185
  t139 := Tryd.underlying186
  a139 := Tryd.isAgg186
  z139 := Tryd.sizeOf186
  v139 := Tryd.zeroValue186
  t146 := Tryd.underlying175
  a146 := Tryd.isAgg175
  z146 := Tryd.sizeOf175
  v146 := Tryd.zeroValue175
  g1 := by kernel_rfl
  g3 := by kernel_rfl
  g4 := by kernel_rfl }
open Go.RowKit Go.Lib in
/-- strings.Split. (LAID: no walk: one application.) -/
theorem Tryd.strings_Split (s sep : ByteArray) (m : Int) (w : World) (hs : s.size < 4294967281) (hm : w.cell? ⟨3, 0, none⟩ = some (.int .i64 m)) (h1 : 1 ≤ sep.size) :
    Calls Tryd.prog 167 #[.string s, .string sep] w fun e w' =>
      e = .returned (.slice (some ⟨w.heap.size, 0, none⟩) (Lib.countB s sep + 1) (Lib.countB s sep + 1)) ∧ w' = w.alloc (.cells ((Lib.splitB sep 0 (Lib.countB s sep) s).map Value.string).toArray 9) := Any.strings_Split Tryd.lays146 (by kernel_rfl) s sep m w hs hm h1
end Go.Proofs
/- Texts cut, looked through and split: the library's contracts, as ours. -/
set_option linter.unusedVariables false
set_option linter.unusedSimpArgs false
namespace Go.Ev.D
open Go.Proofs
theorem cut_len (s t : List UInt8) : (Lib.cut s t).1.length ≤ s.length ∧ (Lib.cut s t).2.1.length ≤ s.length := by
  unfold Lib.cut
  split
  · exact ⟨by simp only [List.length_take]; omega, by simp only [List.length_drop]; omega⟩
  · exact ⟨Nat.le_refl _, Nat.zero_le _⟩
def scutC : Ctr := { args := [.str, .str], res := [.str, .str, .bool], pre := some (fun (x : List UInt8 × List UInt8) => x.1.length ≤ 10000), fn := fun (x : List UInt8 × List UInt8) => Lib.cut x.1 x.2 }
theorem int_cell {S : Stab} {w : World} (hT : Tab S w) {g : Nat} (h : (g, isInt) ∈ anyC) : ∃ m, w.cell? ⟨g, 0, none⟩ = some (.int .i64 m) := by
  obtain ⟨_, v, ⟨m, rfl⟩, h2⟩ := hT.2 _ h
  exact ⟨m, h2⟩
theorem scut_ok : CtrOK Tryd.prog 132 scutC := by
  refine ⟨⟨_, fnOf_eq (by kernel_rfl), by kernel_rfl, by kernel_rfl⟩, ?_⟩
  intro w S us (x : List UInt8 × List UInt8) hS hT henc hp
  have hlen : x.1.length ≤ 10000 := hp (fun (x : List UInt8 × List UInt8) => x.1.length ≤ 10000) rfl
  obtain ⟨s, t⟩ := x
  obtain ⟨c1, us1, ⟨rfl, _⟩, rfl, c2, ⟨rfl, _⟩, rfl⟩ := henc
  obtain ⟨m, hm⟩ := int_cell hT any3
  show Calls Tryd.prog 132 #[.string ⟨⟨s⟩⟩, .string ⟨⟨t⟩⟩] w _
  refine (Tryd.strings_Cut ⟨⟨s⟩⟩ ⟨⟨t⟩⟩ m w (by show s.length < _; simp only at hlen; omega) hm).mono ?_
  rintro e w' ⟨rfl, n, rfl⟩
  have h1 : (Lib.cut s t).1.length ≤ s.length ∧ (Lib.cut s t).2.1.length ≤ s.length := cut_len s t
  simp only at hlen
  refine ⟨_, rfl, ⟨rfl, rfl, rfl, Nat.le_refl _, fun _ _ => rfl⟩, fun _ _ => False, fun _ _ h => h.elim, [_, _, _], ⟨_, _, ⟨rfl, ?_⟩, rfl, _, _, ⟨rfl, ?_⟩, rfl, _, rfl, rfl⟩, rfl⟩
  · show (Lib.cut s t).1.length ≤ maxStr
    unfold maxStr; omega
  · show (Lib.cut s t).2.1.length ≤ maxStr
    unfold maxStr; omega
end Go.Ev.D
/- strconv.ParseUint at base 10, for 32 bits: laid at this seat by the kit's tools. -/
namespace Go.Proofs
open Go.Shelf
def Tryd.laysPu14_ren : Go.Shelf.Ren := ⟨fun | 14 => 135 | 16 => 153 | 17 => 154 | 19 => 170 | 20 => 171 | 21 => 172 | 22 => 173 | 23 => 174 | 24 => 175 | 25 => 185 | 27 => 96 | 26 => 186 | 28 => 139 | 29 => 158 | 30 => 159 | 31 => 160 | 32 => 161 | 33 => 162 | 35 => 177 | 34 => 176 | 36 => 178 | 37 => 179 | 38 => 143 | 39 => 164 | 40 => 165 | n => n, fun | 9 => 9 | 3 => 3 | 22 => 44 | 24 => 115 | 25 => 135 | 4 => 4 | 34 => 159 | 5 => 5 | 36 => 46 | 37 => 111 | 0 => 0 | 39 => 161 | 21 => 21 | 44 => 173 | 47 => 141 | 50 => 180 | 48 => 178 | 2 => 2 | 52 => 152 | 55 => 154 | 59 => 165 | 60 => 33 | 20 => 20 | 61 => 166 | 65 => 167 | 66 => 168 | 67 => 118 | n => n, fun | 0 => 4 | 1 => 5 | 2 => 0 | 3 => 1 | 4 => 2 | n => n⟩
theorem Tryd.laysPu14 : Go.Proofs.LaysPu.n14 Tryd.prog Tryd.laysPu14_ren := {
  mixed := by kernel_rfl
  f14 := Tryd.func135.trans (congrArg some (by kernel_rfl))
  f16 := Tryd.func153.trans (congrArg some (by kernel_rfl))
  f17 := Tryd.func154.trans (congrArg some (by kernel_rfl))
  f19 := Tryd.func170.trans (congrArg some (by kernel_rfl))
  f20 := Tryd.func171.trans (congrArg some (by kernel_rfl))
  f21 := Tryd.func172.trans (congrArg some (by kernel_rfl))
  f22 := Tryd.func173.trans (congrArg some (by kernel_rfl))
  f23 := Tryd.func174.trans (congrArg some (by kernel_rfl))
  f24 := Tryd.func175.trans (congrArg some (by kernel_rfl))
  f25 := Tryd.func185.trans (congrArg some (by kernel_rfl))
  f26 := Tryd.func186.trans (congrArg some (by kernel_rfl))
  f27 := Tryd.func96.trans (congrArg some (by kernel_rfl))
  f28 := Tryd.func139.trans (congrArg some (by kernel_rfl))
  f29 := Tryd.func158.trans (congrArg some (by kernel_rfl))
  f30 := Tryd.func159.trans (congrArg some (by kernel_rfl))
  f31 := Tryd.func160.trans (congrArg some (by kernel_rfl))
  f32 := Tryd.func161.trans (congrArg some (by kernel_rfl))
  f33 := Tryd.func162.trans (congrArg some (by kernel_rfl))
  f34 := Tryd.func176.trans (congrArg some (by kernel_rfl))
  f35 := Tryd.func177.trans (congrArg some (by kernel_rfl))
  f36 := Tryd.func178.trans (congrArg some (by kernel_rfl))
  f37 := Tryd.func179.trans (congrArg some (by kernel_rfl))
  f38 := Tryd.func143.trans (congrArg some (by kernel_rfl))
  f39 := Tryd.func164.trans (congrArg some (by kernel_rfl))
  f40 := Tryd.func165.trans (congrArg some (by kernel_rfl))
  t0 := Tryd.underlying0
  a0 := Tryd.isAgg0
  z0 := Tryd.sizeOf0
  v0 := Tryd.zeroValue0
  i0 := by kernel_rfl
  t2 := Tryd.underlying2
  a2 := Tryd.isAgg2
  z2 := Tryd.sizeOf2
  v2 := Tryd.zeroValue2
  i2 := by kernel_rfl
  t3 := Tryd.underlying3
  a3 := Tryd.isAgg3
  z3 := Tryd.sizeOf3
  v3 := Tryd.zeroValue3
  i3 := by kernel_rfl
  t4 := Tryd.underlying4
  a4 := Tryd.isAgg4
  z4 := Tryd.sizeOf4
  v4 := Tryd.zeroValue4
  i4 := by kernel_rfl
  t5 := Tryd.underlying5
  a5 := Tryd.isAgg5
  z5 := Tryd.sizeOf5
  v5 := Tryd.zeroValue5
  i5 := by kernel_rfl
  t9 := Tryd.underlying9
  a9 := Tryd.isAgg9
  z9 := Tryd.sizeOf9
  v9 := Tryd.zeroValue9
  i9 := by kernel_rfl
  t20 := Tryd.underlying20
  a20 := Tryd.isAgg20
  z20 := Tryd.sizeOf20
  v20 := Tryd.zeroValue20
  i20 := by kernel_rfl
  t21 := Tryd.underlying21
  a21 := Tryd.isAgg21
  z21 := Tryd.sizeOf21
  v21 := Tryd.zeroValue21
  i21 := by kernel_rfl
  t22 := Tryd.underlying44
  a22 := Tryd.isAgg44
  z22 := Tryd.sizeOf44
  v22 := Tryd.zeroValue44
  i22 := by kernel_rfl
  t24 := Tryd.underlying115
  a24 := Tryd.isAgg115
  z24 := Tryd.sizeOf115
  v24 := Tryd.zeroValue115
  i24 := by kernel_rfl
  t25 := Tryd.underlying135
  a25 := Tryd.isAgg135
  z25 := Tryd.sizeOf135
  v25 := Tryd.zeroValue135
  i25 := by kernel_rfl
  t34 := Tryd.underlying159
  a34 := Tryd.isAgg159
  z34 := Tryd.sizeOf159
  v34 := Tryd.zeroValue159
  i34 := by kernel_rfl
  c34 := by kernel_rfl
  t36 := Tryd.underlying46
  a36 := Tryd.isAgg46
  z36 := Tryd.sizeOf46
  v36 := Tryd.zeroValue46
  i36 := by kernel_rfl
  t37 := Tryd.underlying111
  a37 := Tryd.isAgg111
  z37 := Tryd.sizeOf111
  v37 := Tryd.zeroValue111
  i37 := by kernel_rfl
  t39 := Tryd.underlying161
  a39 := Tryd.isAgg161
  z39 := Tryd.sizeOf161
  v39 := Tryd.zeroValue161
  i39 := by kernel_rfl
  t44 := Tryd.underlying173
  a44 := Tryd.isAgg173
  z44 := Tryd.sizeOf173
  v44 := Tryd.zeroValue173
  i44 := by kernel_rfl
  t47 := Tryd.underlying141
  a47 := Tryd.isAgg141
  z47 := Tryd.sizeOf141
  v47 := Tryd.zeroValue141
  i47 := by kernel_rfl
  t48 := Tryd.underlying178
  a48 := Tryd.isAgg178
  z48 := Tryd.sizeOf178
  v48 := Tryd.zeroValue178
  i48 := by kernel_rfl
  t50 := Tryd.underlying180
  a50 := Tryd.isAgg180
  z50 := Tryd.sizeOf180
  v50 := Tryd.zeroValue180
  i50 := by kernel_rfl
  t52 := Tryd.underlying152
  a52 := Tryd.isAgg152
  z52 := Tryd.sizeOf152
  v52 := Tryd.zeroValue152
  i52 := by kernel_rfl
  t55 := Tryd.underlying154
  a55 := Tryd.isAgg154
  z55 := Tryd.sizeOf154
  v55 := Tryd.zeroValue154
  i55 := by kernel_rfl
  t59 := Tryd.underlying165
  a59 := Tryd.isAgg165
  z59 := Tryd.sizeOf165
  v59 := Tryd.zeroValue165
  i59 := by kernel_rfl
  t60 := Tryd.underlying33
  a60 := Tryd.isAgg33
  z60 := Tryd.sizeOf33
  v60 := Tryd.zeroValue33
  i60 := by kernel_rfl
  t61 := Tryd.underlying166
  a61 := Tryd.isAgg166
  z61 := Tryd.sizeOf166
  t65 := Tryd.underlying167
  a65 := Tryd.isAgg167
  z65 := Tryd.sizeOf167
  v65 := Tryd.zeroValue167
  i65 := by kernel_rfl
  t66 := Tryd.underlying168
  a66 := Tryd.isAgg168
  z66 := Tryd.sizeOf168
  v66 := Tryd.zeroValue168
  i66 := by kernel_rfl
  t67 := Tryd.underlying118
  a67 := Tryd.isAgg118
  z67 := Tryd.sizeOf118
  v67 := Tryd.zeroValue118
  i67 := by kernel_rfl
  g0 := by kernel_rfl
  m0 := by kernel_rfl
  g1 := by kernel_rfl
  m1 := by kernel_rfl
  g2 := by kernel_rfl
  m2 := by kernel_rfl
  g3 := by kernel_rfl
  m3 := by kernel_rfl
  g4 := by kernel_rfl
  m4 := by kernel_rfl }
open Go.RowKit in
/-- strconv.ParseUint(s, 10, 32), AT EVERY STRING THAT SPELLS A uint32 ('Lib.parseUintB 32 s.data.toList = .ok u'): u, AND NO ERROR. (LAID: no walk: one application.) -/
theorem Tryd.strconv_ParseUint_10_at32_ok (s : ByteArray) (hmax : s.size ≤ 9223372036854775806) (u : Nat) (h : Lib.parseUintB 32 s.data.toList = .ok u) (w : World) :
    Calls Tryd.prog 135 #[.string s, .int .i64 10, .int .i64 32] w fun e w' => e = .returned (.tuple #[.int .u64 u, .nilIface]) ∧ (w' = w ∨ w' = Lib.bytesWorld w 5 s) := Any.strconv_ParseUint_10_at32_ok Tryd.laysPu14 s hmax u h w
open Go.RowKit in
/-- strconv.ParseUint(s, 10, 32), AT EVERY STRING THAT IS NO ROW OF DECIMAL DIGITS (a sign is a fault): 0, AND AN ERROR THAT IS NOT nil: a *NumError in a new block N: {Func: "ParseUint", Num: s's bytes, Err: what the variable ErrSyntax holds}. Of what was there nothing has turned. (LAID: no walk: one application.) -/
theorem Tryd.strconv_ParseUint_10_at32_syntax (s : ByteArray) (hlim : s.size ≤ 281474976710656) (h : Lib.parseUintB 32 s.data.toList = Lib.parseUintB 32 []) (ev : Value) (w : World) (hv : w.cell? ⟨4, 0, none⟩ = some ev) (hev : ev = .nilIface ∨ ∃ te pe, ev = .iface te pe) :
    Calls Tryd.prog 135 #[.string s, .int .i64 10, .int .i64 32] w fun e w' => ∃ N, e = .returned (.tuple #[.int .u64 0, .iface 161 (.pointer (some ⟨N, 0, none⟩))]) ∧ w.heap.size ≤ N ∧ w'.heap[N]? = some (.cells #[.string ⟨#[80, 97, 114, 115, 101, 85, 105, 110, 116]⟩, .string s, ev] 173 (0, 0)) ∧ Below w.heap.size w w' := Any.strconv_ParseUint_10_at32_syntax Tryd.laysPu14 s hlim (h.trans rfl) ev w hv hev
open Go.RowKit in
/-- strconv.ParseUint(s, 10, 32), AT EVERY NUMERAL THAT NO uint32 HOLDS: THE GREATEST uint32, AND AN ERROR THAT IS NOT nil: a *NumError in a new block N: {Func: "ParseUint", Num: s's bytes, Err: what the variable ErrRange holds}. Of what was there nothing has turned. (LAID: no walk: one application.) -/
theorem Tryd.strconv_ParseUint_10_at32_range (s : ByteArray) (hlim : s.size ≤ 281474976710656) (h : Lib.parseUintB 32 s.data.toList = .range) (ev : Value) (w : World) (hv : w.cell? ⟨5, 0, none⟩ = some ev) (hev : ev = .nilIface ∨ ∃ te pe, ev = .iface te pe) :
    Calls Tryd.prog 135 #[.string s, .int .i64 10, .int .i64 32] w fun e w' => ∃ N, e = .returned (.tuple #[.int .u64 4294967295, .iface 161 (.pointer (some ⟨N, 0, none⟩))]) ∧ w.heap.size ≤ N ∧ w'.heap[N]? = some (.cells #[.string ⟨#[80, 97, 114, 115, 101, 85, 105, 110, 116]⟩, .string s, ev] 173 (0, 0)) ∧ Below w.heap.size w w' := Any.strconv_ParseUint_10_at32_range Tryd.laysPu14 s hlim h ev w hv hev
end Go.Proofs
/- Numerals read, texts cut and looked through: the library's contracts, as ours. -/
set_option linter.unusedVariables false
set_option linter.unusedSimpArgs false
namespace Go.Ev.D
open Go.Proofs
def puintC : Ctr := { args := [.str, .int .i64, .int .i64], res := [.int .u64, .err], pre := some (fun (x : List UInt8 × Int × Int) => puPre x), fn := fun (x : List UInt8 × Int × Int) => puF x.1 }
theorem err_cell {S : Stab} {w : World} (hT : Tab S w) {g : Nat} (h : (g, isErr) ∈ anyC) : ∃ ev, w.cell? ⟨g, 0, none⟩ = some ev ∧ (ev = .nilIface ∨ ∃ te pe, ev = .iface te pe) := by
  obtain ⟨_, v, h1, h2⟩ := hT.2 _ h
  exact ⟨v, h2, h1⟩
theorem puint_ok : CtrOK Tryd.prog 135 puintC := by
  refine ⟨⟨_, fnOf_eq (by kernel_rfl), by kernel_rfl, by kernel_rfl⟩, ?_⟩
  intro w S us (x : List UInt8 × Int × Int) hS hT henc hp
  obtain ⟨hlen, h10, h32⟩ : puPre x := hp (fun (x : List UInt8 × Int × Int) => puPre x) rfl
  obtain ⟨s, b, n⟩ := x
  simp only at hlen h10 h32
  subst h10 h32
  obtain ⟨c1, us1, ⟨rfl, _⟩, rfl, c2, us2, ⟨rfl, _⟩, rfl, c3, ⟨rfl, _⟩, rfl⟩ := henc
  have hsz : (ByteArray.mk ⟨s⟩).size = s.length := rfl
  have hN : ∀ b o, (fun (_ _ : Nat) => False) b o → w.heap.size ≤ b ∧ b < w.heap.size := fun _ _ h => h.elim
  show Calls Tryd.prog 135 #[.string ⟨⟨s⟩⟩, .int .i64 10, .int .i64 32] w _
  cases h : Lib.parseUintB 32 s with
  | ok u =>
    refine (Tryd.strconv_ParseUint_10_at32_ok ⟨⟨s⟩⟩ (by rw [hsz]; omega) u h w).mono ?_
    rintro e w' ⟨rfl, hw⟩
    have hle : u ≤ 4294967295 := Lib.parseUintB_le h
    refine ⟨_, rfl, ?_, fun _ _ => False, fun _ _ h => h.elim, [.int .u64 u, .nilIface], ?_, rfl⟩
    · rcases hw with rfl | rfl
      · exact Grows.refl _
      · exact Grows.below (Lib.bytesWorld_below _ _ _)
    · have e : puintC.fn (s, 10, 32) = ((u : Int), false) := by show puF s = _; unfold puF; rw [h]
      rw [e]
      exact ⟨_, _, ⟨rfl, (has_u64 _).2 ⟨by omega, by omega⟩⟩, rfl, _, .inl ⟨rfl, rfl⟩, rfl⟩
  | range =>
    obtain ⟨ev, h1, h2⟩ := err_cell hT any5
    refine (Tryd.strconv_ParseUint_10_at32_range ⟨⟨s⟩⟩ (by rw [hsz]; omega) h ev w h1 h2).mono ?_
    rintro e w' ⟨N, rfl, _, _, hb⟩
    refine ⟨_, rfl, Grows.below hb, fun _ _ => False, fun _ _ h => h.elim, [.int .u64 4294967295, _], ?_, rfl⟩
    have e : puintC.fn (s, 10, 32) = ((4294967295 : Int), true) := by show puF s = _; unfold puF; rw [h]
    rw [e]
    exact ⟨_, _, ⟨rfl, (has_u64 _).2 ⟨by omega, by omega⟩⟩, rfl, _, .inr ⟨rfl, _, _, rfl⟩, rfl⟩
  | _ =>
    obtain ⟨ev, h1, h2⟩ := err_cell hT any4
    refine (Tryd.strconv_ParseUint_10_at32_syntax ⟨⟨s⟩⟩ (by rw [hsz]; omega) h ev w h1 h2).mono ?_
    rintro e w' ⟨N, rfl, _, _, hb⟩
    refine ⟨_, rfl, Grows.below hb, fun _ _ => False, fun _ _ h => h.elim, [.int .u64 0, _], ?_, rfl⟩
    have e : puintC.fn (s, 10, 32) = ((0 : Int), true) := by show puF s = _; unfold puF; rw [h]
    rw [e]
    exact ⟨_, _, ⟨rfl, (has_u64 _).2 ⟨by omega, by omega⟩⟩, rfl, _, .inr ⟨rfl, _, _, rfl⟩, rfl⟩
end Go.Ev.D
/- Links read. -/
set_option linter.unusedVariables false
set_option linter.unusedSimpArgs false
namespace Go.Ev.D
open Go.Proofs
def cparG : List (Nat × Ctr) := [(132, scutC), (135, puintC), (42, csetC), (52, costtC)]
theorem cparG_ok : CtrsOK Tryd.prog (fun f => lk f cparG) := (ctrs_cons scut_ok (ctrs_cons puint_ok (ctrs_cons cset_ok (ctrs_cons costt_ok ctrs_nil))))
def cparD : LoopD where
  prom := []
  ts := [(3, .val (.int .i64)), (5, .val .str), (2, .ptr 2 gCosts), (4, .ptr 4 gCosts)]
  bs := [(2, .var gCosts), (4, .var gCosts)]
  pre := fun (x : CpS) => cpPre x
  out := fun (x : CpS) => out2 0 (runF cpStp (cpMu x + 1) x)
theorem cpar_round : (fun x : CpS => roundOf (mkC tys cparG [(0, cparD.spec)]) cparD (loopB 0 (bodyOf (fnOf Tryd.prog 79))) x) =
  (fun x =>
    Tree.br (!x.1.2.1 == [])
      (Tree.need (List.length x.1.2.1 ≤ (10000 : Nat))
        (Tree.br (bif !(Lib.cut x.1.2.1 [(32 : UInt8)]).2.2 then true else (Lib.cut x.1.2.1 [(32 : UInt8)]).1 == [])
          (Tree.leaf (Ex.ret, some (((3 : Int), x.1.2.1, ()), ((0 : Int), List.replicate (16 : Nat) (0 : Int)), x.2.2.1, ())))
          (Tree.need ((0 : Int) ≤ (1 : Int) ∧ (1 : Int) ≤ (↑(List.length (Lib.cut x.1.2.1 [(32 : UInt8)]).1) : Int))
            (Tree.need (puPre (List.drop (1 : Nat) (Lib.cut x.1.2.1 [(32 : UInt8)]).1, (10 : Int), (32 : Int)))
              (Tree.br (puF (List.drop (1 : Nat) (Lib.cut x.1.2.1 [(32 : UInt8)]).1)).2
                (Tree.leaf (Ex.ret, some (((3 : Int), x.1.2.1, ()), ((0 : Int), List.replicate (16 : Nat) (0 : Int)), x.2.2.1, ())))
                (Tree.need ((0 : Int) ≤ (0 : Int) ∧ (0 : Int) < (↑(List.length (Lib.cut x.1.2.1 [(32 : UInt8)]).1) : Int))
                  (Tree.br
                    ((csetF x.2.2.1 (IntKind.wrap IntKind.i64 (IntKind.wrap IntKind.i64 (↑(UInt8.toNat (List.getD (Lib.cut x.1.2.1 [(32 : UInt8)]).1 (0 : Nat) (0 : UInt8))) : Int) - (97 : Int)))
                          (IntKind.wrap IntKind.u32 (puF (List.drop (1 : Nat) (Lib.cut x.1.2.1 [(32 : UInt8)]).1)).1)).2 !=
                      (0 : Int))
                    (Tree.leaf (Ex.ret, some (((3 : Int), x.1.2.1, ()), ((0 : Int), List.replicate (16 : Nat) (0 : Int)), x.2.2.1, ())))
                    (Tree.leaf
                      (Ex.normal,
                        some
                          ((x.1.1, (Lib.cut x.1.2.1 [(32 : UInt8)]).2.1, ()), x.2.1,
                            (csetF x.2.2.1 (IntKind.wrap IntKind.i64 (IntKind.wrap IntKind.i64 (↑(UInt8.toNat (List.getD (Lib.cut x.1.2.1 [(32 : UInt8)]).1 (0 : Nat) (0 : UInt8))) : Int) - (97 : Int)))
                                (IntKind.wrap IntKind.u32 (puF (List.drop (1 : Nat) (Lib.cut x.1.2.1 [(32 : UInt8)]).1)).1)).1,
                            ()))))))))))
      (Tree.leaf (Ex.exit (0 : Nat), some ((x.1.1, x.1.2.1, ()), x.2.1, x.2.2.1, ())))) := by kernel_rfl
noncomputable def cparC : Ctr := { args := [.str], res := [gCosts, .int .i64], pre := some (fun (x : List UInt8) => x.length ≤ 1000), fn := lparseF }
theorem cpar_tree : (fun x : List UInt8 => evFn (mkC tys cparG [(0, cparD.spec)]) (fnOf Tryd.prog 79) (resL [.str] x) cparC.res) =
  (fun x =>
    Tree.br (decide ((↑(List.length x) : Int) > (300 : Int))) (Tree.leaf (((0 : Int), List.replicate (16 : Nat) (0 : Int)), (4 : Int)))
      (Tree.need (cpPre (((0 : Int), x, PUnit.unit), ((0 : Int), List.replicate (16 : Nat) (0 : Int)), ((0 : Int), List.replicate (16 : Nat) (0 : Int)), PUnit.unit))
        (Tree.br
          (isRet
            (runF cpStp (cpMu (((0 : Int), x, PUnit.unit), ((0 : Int), List.replicate (16 : Nat) (0 : Int)), ((0 : Int), List.replicate (16 : Nat) (0 : Int)), PUnit.unit) + (1 : Nat))
                (((0 : Int), x, PUnit.unit), ((0 : Int), List.replicate (16 : Nat) (0 : Int)), ((0 : Int), List.replicate (16 : Nat) (0 : Int)), PUnit.unit)).1)
          (Tree.leaf
            ((runF cpStp (cpMu (((0 : Int), x, PUnit.unit), ((0 : Int), List.replicate (16 : Nat) (0 : Int)), ((0 : Int), List.replicate (16 : Nat) (0 : Int)), PUnit.unit) + (1 : Nat))
                      (((0 : Int), x, PUnit.unit), ((0 : Int), List.replicate (16 : Nat) (0 : Int)), ((0 : Int), List.replicate (16 : Nat) (0 : Int)), PUnit.unit)).2.2.1,
              (runF cpStp (cpMu (((0 : Int), x, PUnit.unit), ((0 : Int), List.replicate (16 : Nat) (0 : Int)), ((0 : Int), List.replicate (16 : Nat) (0 : Int)), PUnit.unit) + (1 : Nat))
                      (((0 : Int), x, PUnit.unit), ((0 : Int), List.replicate (16 : Nat) (0 : Int)), ((0 : Int), List.replicate (16 : Nat) (0 : Int)), PUnit.unit)).2.1.1))
          (Tree.br
            (!linksT
                  (runF cpStp (cpMu (((0 : Int), x, PUnit.unit), ((0 : Int), List.replicate (16 : Nat) (0 : Int)), ((0 : Int), List.replicate (16 : Nat) (0 : Int)), PUnit.unit) + (1 : Nat))
                            (((0 : Int), x, PUnit.unit), ((0 : Int), List.replicate (16 : Nat) (0 : Int)), ((0 : Int), List.replicate (16 : Nat) (0 : Int)), PUnit.unit)).2.2.2.1 ==
                x)
            (Tree.leaf (((0 : Int), List.replicate (16 : Nat) (0 : Int)), (3 : Int)))
            (Tree.leaf
              ((runF cpStp (cpMu (((0 : Int), x, PUnit.unit), ((0 : Int), List.replicate (16 : Nat) (0 : Int)), ((0 : Int), List.replicate (16 : Nat) (0 : Int)), PUnit.unit) + (1 : Nat))
                          (((0 : Int), x, PUnit.unit), ((0 : Int), List.replicate (16 : Nat) (0 : Int)), ((0 : Int), List.replicate (16 : Nat) (0 : Int)), PUnit.unit)).2.2.2.1,
                (0 : Int))))))) := by kernel_rfl
def rcparG : List (Nat × Ctr) := [(43, rcsetC), (53, rcosttC)]
theorem rcparG_ok : CtrsOK Tryd.prog (fun f => lk f rcparG) := (ctrs_cons rcset_ok (ctrs_cons rcostt_ok ctrs_nil))
def rcparD : LoopD where
  prom := []
  ts := [(0, .val .str), (3, .val (.int .i64)), (5, .val (.int .i64)), (6, .val (.int .u32)), (16, .val (.int .i64)), (17, .val (.int .i64)), (2, .ptr 2 gCosts), (4, .ptr 4 gCosts)]
  bs := [(2, .var gCosts), (4, .var gCosts)]
  pre := fun (x : RcS) => rcPre x
  out := fun (x : RcS) => out2 0 (runF rcStp (rcMu x + 1) x)
theorem rcpar_round : (fun x : RcS => roundOf (mkC tys rcparG [(0, rcparD.spec)]) rcparD (loopB 0 (bodyOf (fnOf Tryd.prog 80))) x) =
  (fun x =>
    Tree.br (decide (x.1.2.2.2.2.2.1 < x.1.2.2.2.2.1))
      (Tree.need ((0 : Int) ≤ x.1.2.2.2.2.2.1 ∧ x.1.2.2.2.2.2.1 < (↑(List.length x.1.1) : Int))
        (Tree.br
          (bif
              bif decide ((↑(UInt8.toNat (List.getD x.1.1 (Int.toNat x.1.2.2.2.2.2.1) (0 : UInt8))) : Int) ≥ (97 : Int)) then
                decide ((↑(UInt8.toNat (List.getD x.1.1 (Int.toNat x.1.2.2.2.2.2.1) (0 : UInt8))) : Int) ≤ (112 : Int))
              else false then
            decide (x.1.2.2.1 < (0 : Int))
          else false)
          (Tree.leaf
            (Ex.normal,
              some
                ((x.1.1, x.1.2.1, IntKind.wrap IntKind.i64 (IntKind.wrap IntKind.u8 ((↑(UInt8.toNat (List.getD x.1.1 (Int.toNat x.1.2.2.2.2.2.1) (0 : UInt8))) : Int) - (97 : Int))), (0 : Int),
                    x.1.2.2.2.2.1, IntKind.wrap IntKind.i64 (x.1.2.2.2.2.2.1 + (1 : Int)), ()),
                  x.2.1, x.2.2.1, ())))
          (Tree.br
            (bif
                bif
                    bif decide ((↑(UInt8.toNat (List.getD x.1.1 (Int.toNat x.1.2.2.2.2.2.1) (0 : UInt8))) : Int) ≥ (48 : Int)) then
                      decide ((↑(UInt8.toNat (List.getD x.1.1 (Int.toNat x.1.2.2.2.2.2.1) (0 : UInt8))) : Int) ≤ (57 : Int))
                    else false then
                  decide (x.1.2.2.1 ≥ (0 : Int))
                else false then
              decide (x.1.2.2.2.1 ≤ (65536 : Int))
            else false)
            (Tree.leaf
              (Ex.normal,
                some
                  ((x.1.1, x.1.2.1, x.1.2.2.1,
                      IntKind.wrap IntKind.u32
                        (IntKind.wrap IntKind.u32 ((10 : Int) * x.1.2.2.2.1) +
                          IntKind.wrap IntKind.u32 (IntKind.wrap IntKind.u8 ((↑(UInt8.toNat (List.getD x.1.1 (Int.toNat x.1.2.2.2.2.2.1) (0 : UInt8))) : Int) - (48 : Int)))),
                      x.1.2.2.2.2.1, IntKind.wrap IntKind.i64 (x.1.2.2.2.2.2.1 + (1 : Int)), ()),
                    x.2.1, x.2.2.1, ())))
            (Tree.br (bif (↑(UInt8.toNat (List.getD x.1.1 (Int.toNat x.1.2.2.2.2.2.1) (0 : UInt8))) : Int) == (32 : Int) then decide (x.1.2.2.1 ≥ (0 : Int)) else false)
              (Tree.br ((csetF x.2.2.1 x.1.2.2.1 x.1.2.2.2.1).2 != (0 : Int))
                (Tree.leaf (Ex.ret, some ((x.1.1, (3 : Int), x.1.2.2.1, x.1.2.2.2.1, x.1.2.2.2.2.1, x.1.2.2.2.2.2.1, ()), ((0 : Int), List.replicate (16 : Nat) (0 : Int)), x.2.2.1, ())))
                (Tree.leaf
                  (Ex.normal,
                    some ((x.1.1, x.1.2.1, (-1 : Int), x.1.2.2.2.1, x.1.2.2.2.2.1, IntKind.wrap IntKind.i64 (x.1.2.2.2.2.2.1 + (1 : Int)), ()), x.2.1, (csetF x.2.2.1 x.1.2.2.1 x.1.2.2.2.1).1, ()))))
              (Tree.leaf (Ex.ret, some ((x.1.1, (3 : Int), x.1.2.2.1, x.1.2.2.2.1, x.1.2.2.2.2.1, x.1.2.2.2.2.2.1, ()), ((0 : Int), List.replicate (16 : Nat) (0 : Int)), x.2.2.1, ())))))))
      (Tree.leaf (Ex.exit (0 : Nat), some ((x.1.1, x.1.2.1, x.1.2.2.1, x.1.2.2.2.1, x.1.2.2.2.2.1, x.1.2.2.2.2.2.1, ()), x.2.1, x.2.2.1, ())))) := by kernel_rfl
theorem rcpar_tree : (fun x : List UInt8 => evFn (mkC tys rcparG [(0, rcparD.spec)]) (fnOf Tryd.prog 80) (resL [.str] x) cparC.res) =
  (fun x =>
    Tree.br (decide ((↑(List.length x) : Int) > (300 : Int))) (Tree.leaf (((0 : Int), List.replicate (16 : Nat) (0 : Int)), (4 : Int)))
      (Tree.need
        (rcPre
          ((x, (0 : Int), (-1 : Int), (0 : Int), (↑(List.length x) : Int), (0 : Int), PUnit.unit), ((0 : Int), List.replicate (16 : Nat) (0 : Int)), ((0 : Int), List.replicate (16 : Nat) (0 : Int)),
            PUnit.unit))
        (Tree.br
          (isRet
            (runF rcStp
                (rcMu
                    ((x, (0 : Int), (-1 : Int), (0 : Int), (↑(List.length x) : Int), (0 : Int), PUnit.unit), ((0 : Int), List.replicate (16 : Nat) (0 : Int)),
                      ((0 : Int), List.replicate (16 : Nat) (0 : Int)), PUnit.unit) +
                  (1 : Nat))
                ((x, (0 : Int), (-1 : Int), (0 : Int), (↑(List.length x) : Int), (0 : Int), PUnit.unit), ((0 : Int), List.replicate (16 : Nat) (0 : Int)),
                  ((0 : Int), List.replicate (16 : Nat) (0 : Int)), PUnit.unit)).1)
          (Tree.leaf
            ((runF rcStp
                      (rcMu
                          ((x, (0 : Int), (-1 : Int), (0 : Int), (↑(List.length x) : Int), (0 : Int), PUnit.unit), ((0 : Int), List.replicate (16 : Nat) (0 : Int)),
                            ((0 : Int), List.replicate (16 : Nat) (0 : Int)), PUnit.unit) +
                        (1 : Nat))
                      ((x, (0 : Int), (-1 : Int), (0 : Int), (↑(List.length x) : Int), (0 : Int), PUnit.unit), ((0 : Int), List.replicate (16 : Nat) (0 : Int)),
                        ((0 : Int), List.replicate (16 : Nat) (0 : Int)), PUnit.unit)).2.2.1,
              (runF rcStp
                        (rcMu
                            ((x, (0 : Int), (-1 : Int), (0 : Int), (↑(List.length x) : Int), (0 : Int), PUnit.unit), ((0 : Int), List.replicate (16 : Nat) (0 : Int)),
                              ((0 : Int), List.replicate (16 : Nat) (0 : Int)), PUnit.unit) +
                          (1 : Nat))
                        ((x, (0 : Int), (-1 : Int), (0 : Int), (↑(List.length x) : Int), (0 : Int), PUnit.unit), ((0 : Int), List.replicate (16 : Nat) (0 : Int)),
                          ((0 : Int), List.replicate (16 : Nat) (0 : Int)), PUnit.unit)).2.1.2.1))
          (Tree.br
            (!linksT
                  (runF rcStp
                            (rcMu
                                ((x, (0 : Int), (-1 : Int), (0 : Int), (↑(List.length x) : Int), (0 : Int), PUnit.unit), ((0 : Int), List.replicate (16 : Nat) (0 : Int)),
                                  ((0 : Int), List.replicate (16 : Nat) (0 : Int)), PUnit.unit) +
                              (1 : Nat))
                            ((x, (0 : Int), (-1 : Int), (0 : Int), (↑(List.length x) : Int), (0 : Int), PUnit.unit), ((0 : Int), List.replicate (16 : Nat) (0 : Int)),
                              ((0 : Int), List.replicate (16 : Nat) (0 : Int)), PUnit.unit)).2.2.2.1 ==
                (runF rcStp
                        (rcMu
                            ((x, (0 : Int), (-1 : Int), (0 : Int), (↑(List.length x) : Int), (0 : Int), PUnit.unit), ((0 : Int), List.replicate (16 : Nat) (0 : Int)),
                              ((0 : Int), List.replicate (16 : Nat) (0 : Int)), PUnit.unit) +
                          (1 : Nat))
                        ((x, (0 : Int), (-1 : Int), (0 : Int), (↑(List.length x) : Int), (0 : Int), PUnit.unit), ((0 : Int), List.replicate (16 : Nat) (0 : Int)),
                          ((0 : Int), List.replicate (16 : Nat) (0 : Int)), PUnit.unit)).2.1.1)
            (Tree.leaf (((0 : Int), List.replicate (16 : Nat) (0 : Int)), (3 : Int)))
            (Tree.leaf
              ((runF rcStp
                          (rcMu
                              ((x, (0 : Int), (-1 : Int), (0 : Int), (↑(List.length x) : Int), (0 : Int), PUnit.unit), ((0 : Int), List.replicate (16 : Nat) (0 : Int)),
                                ((0 : Int), List.replicate (16 : Nat) (0 : Int)), PUnit.unit) +
                            (1 : Nat))
                          ((x, (0 : Int), (-1 : Int), (0 : Int), (↑(List.length x) : Int), (0 : Int), PUnit.unit), ((0 : Int), List.replicate (16 : Nat) (0 : Int)),
                            ((0 : Int), List.replicate (16 : Nat) (0 : Int)), PUnit.unit)).2.2.2.1,
                (0 : Int))))))) := by kernel_rfl
theorem cpar_loop : LoopOK (mkC tys cparG [(0, cparD.spec)]) cparD.spec (loopB 0 (bodyOf (fnOf Tryd.prog 79))) :=
  loopF2_ok (id := 0) (D := cparD) (fun x => congrFun cpar_round x) cpStp cpMu (fun _ => rfl) cpStp_ends fun (x : CpS) hp => by
    refine ⟨?_, fun hn => cp_go hp hn⟩
    obtain ⟨⟨e, r, ⟨⟩⟩, c2, c4, ⟨⟩⟩ := x
    have hp' : r.length ≤ 1000 := hp
    have hcl := cut_len r [32]
    have hb := byteAt_lt (cpW r) 0
    have hpu := puF_in ((cpW r).drop 1)
    have e1 : IntKind.wrap IntKind.i64 (IntKind.wrap IntKind.i64 ((byteAt (cpW r) 0 : Nat) : Int) - 97) = ((byteAt (cpW r) 0 : Nat) : Int) - 97 := by
      rw [show IntKind.wrap IntKind.i64 ((byteAt (cpW r) 0 : Nat) : Int) = ((byteAt (cpW r) 0 : Nat) : Int) from i64_id (by omega) (by omega)]
      exact i64_id (by omega) (by omega)
    have e2 : IntKind.wrap IntKind.u32 (puF ((cpW r).drop 1)).1 = (puF ((cpW r).drop 1)).1 := u32_id hpu.1 hpu.2
    have eS : csetF c4 (IntKind.wrap IntKind.i64 (IntKind.wrap IntKind.i64 ((UInt8.toNat (List.getD (Lib.cut r [(32 : UInt8)]).1 (0 : Nat) (0 : UInt8)) : Nat) : Int) - (97 : Int))) (IntKind.wrap IntKind.u32 (puF (List.drop (1 : Nat) (Lib.cut r [(32 : UInt8)]).1)).1) = cpSet r c4 := by
      show csetF c4 (IntKind.wrap IntKind.i64 (IntKind.wrap IntKind.i64 ((byteAt (cpW r) 0 : Nat) : Int) - 97)) (IntKind.wrap IntKind.u32 (puF ((cpW r).drop 1)).1) = _
      rw [e1, e2]; rfl
    have eB : (bif !(Lib.cut r [(32 : UInt8)]).2.2 then true else (Lib.cut r [(32 : UInt8)]).1 == []) = cpBad r := rfl
    simp only [Tree.holds, cpStp]
    rw [eS, eB]
    refine ⟨fun h => ⟨by omega, fun hB => ?_, fun hB => ?_⟩, fun h => ?_⟩
    · rw [h, hB]; rfl
    · have hw := (cpBad_no hB).2
      have hw1 : 1 ≤ (Lib.cut r [32]).1.length := List.length_pos_iff.2 hw
      refine ⟨⟨by omega, by omega⟩, ⟨?_, rfl, rfl⟩, fun h2 => ?_, fun h2 => ⟨⟨by omega, by omega⟩, fun h3 => ?_, fun h3 => ?_⟩⟩
      · show (List.drop 1 (Lib.cut r [32]).1).length ≤ 1000
        rw [List.length_drop]; omega
      · have h2' : (puF ((cpW r).drop 1)).2 = true := h2
        rw [h, hB, h2']; rfl
      · have h2' : (puF ((cpW r).drop 1)).2 = false := h2
        rw [h, hB, h2', h3]; rfl
      · have h2' : (puF ((cpW r).drop 1)).2 = false := h2
        rw [h, hB, h2', h3]; rfl
    · rw [h]; rfl
theorem cpar_ok : CtrOK Tryd.prog 79 cparC :=
  fun_ok (G := cparG) (Λ := [(0, cparD.spec)]) tysOK cparG_ok mixed (by kernel_rfl) (by kernel_rfl) (by kernel_rfl) (by kernel_rfl) (lp_cons cpar_loop lp_nil) fun (x : List UInt8) hw hp => by
    have hlen : x.length ≤ 1000 := hp (fun (x : List UInt8) => x.length ≤ 1000) rfl
    show (evFn (mkC tys cparG [(0, cparD.spec)]) (fnOf Tryd.prog 79) (resL [.str] x) cparC.res).holds (fun y => y = lparseF x)
    rw [congrFun cpar_tree x]
    show (Tree.br _ _ (Tree.need _ _)).holds _
    rw [Tree.holds]
    refine ⟨fun h => (lparse_long (of_decide_eq_true h)).symm, fun h => ?_⟩
    have hl : ¬ (x.length : Int) > 300 := of_decide_eq_false h
    have key := cp_inv (cpMu (((0 : Int), x, PUnit.unit), zeroC, zeroC, PUnit.unit) + 1) (((0 : Int), x, PUnit.unit), zeroC, zeroC, PUnit.unit) zero_sound (Nat.lt_succ_self _)
    have told : ∀ c, sndP c → linksT c = x → isRet (cpRun x).1 = false ∧ (cpRun x).2.2.2.1 = c := fun c hc e => by
      have := cp_told hc
      rw [e] at this
      exact ⟨by rw [this.1]; rfl, this.2⟩
    have e : cpRun x = runF cpStp (cpMu (((0 : Int), x, PUnit.unit), ((0 : Int), List.replicate (16 : Nat) (0 : Int)), ((0 : Int), List.replicate (16 : Nat) (0 : Int)), PUnit.unit) + 1) (((0 : Int), x, PUnit.unit), ((0 : Int), List.replicate (16 : Nat) (0 : Int)), ((0 : Int), List.replicate (16 : Nat) (0 : Int)), PUnit.unit) := rfl
    have e' : cpRun x = runF cpStp (cpMu (((0 : Int), x, PUnit.unit), zeroC, zeroC, PUnit.unit) + 1) (((0 : Int), x, PUnit.unit), zeroC, zeroC, PUnit.unit) := rfl
    rw [← e'] at key
    rw [← e]
    generalize cpRun x = r at key told
    have w := c_whole hl told key.1 key.2
    simp only [Tree.holds]
    exact ⟨hlen, fun h1 => w.1 h1, fun h1 => ⟨fun h2 => (w.2 h1).1 h2, fun h2 => (w.2 h1).2 h2⟩⟩
theorem rcpar_loop : LoopOK (mkC tys rcparG [(0, rcparD.spec)]) rcparD.spec (loopB 0 (bodyOf (fnOf Tryd.prog 80))) :=
  loopF2_ok (id := 0) (D := rcparD) (fun x => congrFun rcpar_round x) rcStp rcMu (fun _ => rfl) rcStp_ends fun (x : RcS) hp => by
    refine ⟨?_, fun hn => rc_go hp hn⟩
    obtain ⟨⟨s, e, n, k, len, i, ⟨⟩⟩, c2, c4, ⟨⟩⟩ := x
    obtain ⟨h1, h2, h3, h4, h5, h6⟩ := hp
    simp only at h1 h2 h3 h4 h5 h6
    subst h1
    have hb := byteAt_lt s i.toNat
    have ei : IntKind.wrap IntKind.i64 (i + 1) = i + 1 := i64_id (by omega) (by omega)
    simp only [Tree.holds, rcStp]
    rw [ei]
    refine ⟨fun hl => ?_, fun hl => ?_⟩
    · rw [hl]
      have hlt := of_decide_eq_true hl
      refine ⟨⟨h3, hlt⟩, fun hA => ?_, fun hA => ⟨fun hB => ?_, fun hB => ⟨fun hC => ⟨fun hD => ?_, fun hD => ?_⟩, fun hC => ?_⟩⟩⟩
      · have hA' : dA n (byteAt s i.toNat : Nat) = true := hA
        rw [hA']
        have hc := dA_in hA'
        have ew : IntKind.wrap IntKind.i64 (IntKind.wrap IntKind.u8 (((byteAt s i.toNat : Nat) : Int) - 97)) = ((byteAt s i.toNat : Nat) : Int) - 97 := by
          rw [show IntKind.wrap IntKind.u8 (((byteAt s i.toNat : Nat) : Int) - 97) = ((byteAt s i.toNat : Nat) : Int) - 97 from u8_id (by omega) (by omega)]
          exact i64_id (by omega) (by omega)
        show (Ex.normal, some ((s, e, IntKind.wrap IntKind.i64 (IntKind.wrap IntKind.u8 (((byteAt s i.toNat : Nat) : Int) - 97)), 0, (s.length : Int), i + 1, ()), c2, c4, ())) = _
        rw [ew]; rfl
      · have hA' : dA n (byteAt s i.toNat : Nat) = false := hA
        have hB' : dB n k (byteAt s i.toNat : Nat) = true := hB
        rw [hA', hB']
        have hin := dB_in hB'
        have ew : IntKind.wrap IntKind.u32 (IntKind.wrap IntKind.u32 (10 * k) + IntKind.wrap IntKind.u32 (IntKind.wrap IntKind.u8 (((byteAt s i.toNat : Nat) : Int) - 48))) = k * 10 + (((byteAt s i.toNat : Nat) : Int) - 48) := by
          rw [show IntKind.wrap IntKind.u8 (((byteAt s i.toNat : Nat) : Int) - 48) = ((byteAt s i.toNat : Nat) : Int) - 48 from u8_id (by omega) (by omega), show IntKind.wrap IntKind.u32 (((byteAt s i.toNat : Nat) : Int) - 48) = ((byteAt s i.toNat : Nat) : Int) - 48 from u32_id (by omega) (by omega), show IntKind.wrap IntKind.u32 (10 * k) = 10 * k from u32_id (by omega) (by omega), show IntKind.wrap IntKind.u32 (10 * k + (((byteAt s i.toNat : Nat) : Int) - 48)) = 10 * k + (((byteAt s i.toNat : Nat) : Int) - 48) from u32_id (by omega) (by omega)]
          omega
        show (Ex.normal, some ((s, e, n, IntKind.wrap IntKind.u32 (IntKind.wrap IntKind.u32 (10 * k) + IntKind.wrap IntKind.u32 (IntKind.wrap IntKind.u8 (((byteAt s i.toNat : Nat) : Int) - 48))), (s.length : Int), i + 1, ()), c2, c4, ())) = _
        rw [ew]; rfl
      · have hA' : dA n (byteAt s i.toNat : Nat) = false := hA
        have hB' : dB n k (byteAt s i.toNat : Nat) = false := hB
        have hC' : dC n (byteAt s i.toNat : Nat) = true := hC
        rw [hA', hB', hC', hD]; rfl
      · have hA' : dA n (byteAt s i.toNat : Nat) = false := hA
        have hB' : dB n k (byteAt s i.toNat : Nat) = false := hB
        have hC' : dC n (byteAt s i.toNat : Nat) = true := hC
        rw [hA', hB', hC', hD]; rfl
      · have hA' : dA n (byteAt s i.toNat : Nat) = false := hA
        have hB' : dB n k (byteAt s i.toNat : Nat) = false := hB
        have hC' : dC n (byteAt s i.toNat : Nat) = false := hC
        rw [hA', hB', hC']; rfl
    · rw [hl]; rfl
theorem rcpar_ok : CtrOK Tryd.prog 80 cparC :=
  fun_ok (G := rcparG) (Λ := [(0, rcparD.spec)]) tysOK rcparG_ok mixed (by kernel_rfl) (by kernel_rfl) (by kernel_rfl) (by kernel_rfl) (lp_cons rcpar_loop lp_nil) fun (x : List UInt8) hw hp => by
    have hlen : x.length ≤ 1000 := hp (fun (x : List UInt8) => x.length ≤ 1000) rfl
    show (evFn (mkC tys rcparG [(0, rcparD.spec)]) (fnOf Tryd.prog 80) (resL [.str] x) cparC.res).holds (fun y => y = lparseF x)
    rw [congrFun rcpar_tree x]
    show (Tree.br _ _ (Tree.need _ _)).holds _
    rw [Tree.holds]
    refine ⟨fun h => (lparse_long (of_decide_eq_true h)).symm, fun h => ?_⟩
    have hl : ¬ (x.length : Int) > 300 := of_decide_eq_false h
    have key := rc_inv x (rcMu (rcSt x 0 (-1) 0 0 zeroC zeroC) + 1) (rcSt x 0 (-1) 0 0 zeroC zeroC) ⟨zero_sound, rfl⟩ (Nat.lt_succ_self _)
    have told : ∀ c, sndP c → linksT c = x → isRet (rcRun (rcSt x 0 (-1) 0 0 zeroC zeroC)).1 = false ∧ (rcRun (rcSt x 0 (-1) 0 0 zeroC zeroC)).2.2.2.1 = c := fun c hc e => by
      have := rc_told hc
      rw [e] at this
      exact ⟨by rw [this.1]; rfl, this.2⟩
    have e : rcRun (rcSt x 0 (-1) 0 0 zeroC zeroC) = runF rcStp (rcMu ((x, (0 : Int), (-1 : Int), (0 : Int), (x.length : Int), (0 : Int), PUnit.unit), ((0 : Int), List.replicate (16 : Nat) (0 : Int)), ((0 : Int), List.replicate (16 : Nat) (0 : Int)), PUnit.unit) + 1) ((x, (0 : Int), (-1 : Int), (0 : Int), (x.length : Int), (0 : Int), PUnit.unit), ((0 : Int), List.replicate (16 : Nat) (0 : Int)), ((0 : Int), List.replicate (16 : Nat) (0 : Int)), PUnit.unit) := rfl
    have e' : rcRun (rcSt x 0 (-1) 0 0 zeroC zeroC) = runF rcStp (rcMu (rcSt x 0 (-1) 0 0 zeroC zeroC) + 1) (rcSt x 0 (-1) 0 0 zeroC zeroC) := rfl
    rw [← e'] at key
    rw [← e]
    generalize rcRun (rcSt x 0 (-1) 0 0 zeroC zeroC) = r at key told
    have w := c_whole hl told key.1.1 key.1.2
    have same' : r.2.1.1 = x := key.2
    simp only [Tree.holds]
    rw [same']
    exact ⟨⟨rfl, hlen, Int.le_refl _, by show (0 : Int) ≤ (x.length : Int); omega, Int.le_refl _, by show (0 : Int) ≤ 655369; decide⟩, fun h1 => w.1 h1, fun h1 => ⟨fun h2 => (w.2 h1).1 h2, fun h2 => (w.2 h1).2 h2⟩⟩
end Go.Ev.D
/- The least link, the sum, what two differ in. -/
set_option linter.unusedVariables false
set_option linter.unusedSimpArgs false
namespace Go.Ev.D
open Go.Proofs
def leastD : LoopD where
  prom := []
  ts := [(3, .val (.int .i64)), (7, .val (.sl (.int .i64))), (8, .val (.int .i64)), (9, .val (.int .i64)), (1, .ptr 1 gCosts)]
  bs := [(1, .var gCosts)]
  pre := fun (x : (Int × List Int × Int × Int × Unit) × (DCosts × Unit)) => 0 ≤ x.1.2.2.2.1 ∧ x.1.2.2.2.1 ≤ x.1.2.2.1 ∧ x.1.2.2.1 = x.1.2.1.length ∧ x.1.2.2.1 ≤ 16 ∧ (∀ j ∈ x.1.2.1, 0 ≤ j ∧ j < 16) ∧ x.1.1 < 16
  out := fun (x : (Int × List Int × Int × Int × Unit) × (DCosts × Unit)) => .leaf (.exit 0, (((x.1.2.1.drop x.1.2.2.2.1.toNat).foldl (leastS x.2.1) x.1.1, x.1.2.1, x.1.2.2.1, x.1.2.2.1, ()), x.2))
def totalD : LoopD where
  prom := []
  ts := [(3, .val (.int .u64)), (7, .val (.sl (.int .i64))), (8, .val (.int .i64)), (9, .val (.int .i64)), (1, .ptr 1 gCosts)]
  bs := [(1, .var gCosts)]
  pre := fun (x : (Int × List Int × Int × Int × Unit) × (DCosts × Unit)) => 0 ≤ x.1.2.2.2.1 ∧ x.1.2.2.2.1 ≤ x.1.2.2.1 ∧ x.1.2.2.1 = x.1.2.1.length ∧ x.1.2.2.1 ≤ 16 ∧ (∀ j ∈ x.1.2.1, 0 ≤ j ∧ j < 16)
  out := fun (x : (Int × List Int × Int × Int × Unit) × (DCosts × Unit)) => .leaf (.exit 0, (((x.1.2.1.drop x.1.2.2.2.1.toNat).foldl (totalS x.2.1) x.1.1, x.1.2.1, x.1.2.2.1, x.1.2.2.1, ()), x.2))
def leastC : Ctr := { args := [gCosts], res := [.int .i64], pre := none, fn := fun (x : DCosts) => leastF x }
def totalC : Ctr := { args := [gCosts], res := [.int .u64], pre := none, fn := fun (x : DCosts) => totalF x }
def diffC : Ctr := { args := [gCosts, gCosts], res := [.int .i64], pre := none, fn := fun (x : DCosts × DCosts) => diffF x.1 x.2 }
def diffD : LoopD where
  prom := []
  ts := [(5, .val (.int .i64)), (7, .val (.int .i64)), (2, .ptr 2 gCosts), (3, .ptr 3 gCosts)]
  bs := [(2, .var gCosts), (3, .var gCosts)]
  pre := fun (x : (Int × Int × Unit) × (DCosts × DCosts × Unit)) => 0 ≤ x.1.2.1 ∧ x.1.2.1 ≤ 16
  out := fun (x : (Int × Int × Unit) × (DCosts × DCosts × Unit)) => .leaf (.exit 0, ((diffK x.2.1 x.2.2.1 (16 - x.1.2.1).toNat x.1.1, 16, ()), x.2))
def leastG : List (Nat × Ctr) := [(44, upC)]
theorem leastG_ok : CtrsOK Tryd.prog (fun f => lk f leastG) := (ctrs_cons up_ok ctrs_nil)
theorem least_round : (fun x : (Int × List Int × Int × Int × Unit) × (DCosts × Unit) => roundOf (mkC tys leastG [(0, leastD.spec)]) leastD (loopB 0 (bodyOf (fnOf Tryd.prog 81))) x) =
  (fun x =>
    Tree.br (decide (x.1.2.2.2.1 < x.1.2.2.1))
      (Tree.need ((0 : Int) ≤ x.1.2.2.2.1 ∧ x.1.2.2.2.1 < (↑(List.length x.1.2.1) : Int))
        (Tree.need
          ((decide (x.1.1 < (0 : Int)) == false && true) = true → (0 : Int) ≤ List.getD x.1.2.1 (Int.toNat x.1.2.2.2.1) (0 : Int) ∧ List.getD x.1.2.1 (Int.toNat x.1.2.2.2.1) (0 : Int) < (16 : Int))
          (Tree.need ((decide (x.1.1 < (0 : Int)) == false && true) = true → (0 : Int) ≤ x.1.1 ∧ x.1.1 < (16 : Int))
            (Tree.leaf
              (Ex.normal,
                some
                  ((bif
                          bif decide (x.1.1 < (0 : Int)) then true
                          else decide (List.getD x.2.1.2 (Int.toNat (List.getD x.1.2.1 (Int.toNat x.1.2.2.2.1) (0 : Int))) (0 : Int) < List.getD x.2.1.2 (Int.toNat x.1.1) (0 : Int)) then
                        List.getD x.1.2.1 (Int.toNat x.1.2.2.2.1) (0 : Int)
                      else x.1.1,
                      x.1.2.1, x.1.2.2.1, IntKind.wrap IntKind.i64 (x.1.2.2.2.1 + (1 : Int)), ()),
                    x.2.1, ()))))))
      (Tree.leaf (Ex.exit (0 : Nat), some ((x.1.1, x.1.2.1, x.1.2.2.1, x.1.2.2.2.1, ()), x.2.1, ())))) := by kernel_rfl
theorem least_loop : LoopOK (mkC tys leastG [(0, leastD.spec)]) leastD.spec (loopB 0 (bodyOf (fnOf Tryd.prog 81))) :=
  loopD_ok1 (fun _ => rfl) (fun x => congrFun least_round x) (fun (x : (Int × List Int × Int × Int × Unit) × (DCosts × Unit)) => (x.1.2.2.1 - x.1.2.2.2.1).toNat) fun (x : (Int × List Int × Int × Int × Unit) × (DCosts × Unit)) hp => by
    obtain ⟨⟨a, l, n, i, ⟨⟩⟩, c, ⟨⟩⟩ := x
    obtain ⟨h1, h2, h3, h4, h5, h6⟩ := hp
    simp only at h1 h2 h3 h4 h5 h6
    simp only [Tree.holds]
    refine ⟨fun h => ?_, fun h => ?_⟩
    · have h' : i < n := by simpa using h
      have e : IntKind.i64.wrap (i + 1) = i + 1 := i64_id (by omega) (by omega)
      have hj := getD_in (p := fun j => 0 ≤ j ∧ j < 16) h5 h1 (by omega)
      refine ⟨⟨h1, by omega⟩, fun _ => hj, fun hh => ⟨?_, h6⟩, ?_⟩
      · by_cases hd : a < 0
        · rw [decide_eq_true hd] at hh; cases hh
        · omega
      refine ⟨_, rfl, ?_⟩
      rw [e]
      refine ⟨⟨by show 0 ≤ i + 1; omega, by show i + 1 ≤ n; omega, h3, h4, h5, leastS_in h6 hj⟩, by show (n - (i + 1)).toNat < (n - i).toNat; omega, ?_⟩
      show (Ex.exit 0, (((l.drop (i + 1).toNat).foldl (leastS c) (leastS c a (l.getD i.toNat 0)), l, n, n, ()), (c, ()))) = _
      rw [fold_drop (leastS c) a h1 (by omega)]
    · have h' : ¬ i < n := by simpa using h
      refine ⟨_, rfl, ?_⟩
      have hi : i = n := by omega
      subst hi
      show (Ex.exit 0, (((l.drop i.toNat).foldl (leastS c) a, l, i, i, ()), (c, ()))) = _
      rw [fold_over (leastS c) a (by omega)]
      rfl
theorem least_tree : (fun x : DCosts => evFn (mkC tys leastG [(0, leastD.spec)]) (fnOf Tryd.prog 81) (resL leastC.args x) leastC.res) =
  (fun x =>
    Tree.need
      ((0 : Int) ≤ (0 : Int) ∧
        (0 : Int) ≤ (↑(List.length (elemsF x.1 (16 : Nat))) : Int) ∧
          (↑(List.length (elemsF x.1 (16 : Nat))) : Int) = (↑(List.length (elemsF x.1 (16 : Nat))) : Int) ∧
            (↑(List.length (elemsF x.1 (16 : Nat))) : Int) ≤ (16 : Int) ∧ (∀ (j : Int), j ∈ elemsF x.1 (16 : Nat) → (0 : Int) ≤ j ∧ j < (16 : Int)) ∧ (-1 : Int) < (16 : Int))
      (Tree.leaf (List.foldl (leastS x) (-1 : Int) (List.drop (Int.toNat (0 : Int)) (elemsF x.1 (16 : Nat)))))) := by kernel_rfl
theorem least_ok : CtrOK Tryd.prog 81 leastC :=
  fun_ok (G := leastG) (Λ := [(0, leastD.spec)]) tysOK leastG_ok mixed (by kernel_rfl) (by kernel_rfl) (by kernel_rfl) (by kernel_rfl) (lp_cons least_loop lp_nil) fun (x : DCosts) hw _ => by
    show (evFn (mkC tys leastG [(0, leastD.spec)]) (fnOf Tryd.prog 81) (resL leastC.args x) leastC.res).holds (fun y => y = leastF x)
    rw [congrFun least_tree x]
    have h2 := elems_len x.1 16
    have h5 : ∀ j ∈ elemsF x.1 16, 0 ≤ j ∧ j < 16 := fun j hj => by
      have := elem_in (Nat.le_refl 16) hj
      exact ⟨this.1, this.2.1⟩
    simp only [Tree.holds]
    refine ⟨⟨Int.le_refl _, by show (0 : Int) ≤ ((elemsF x.1 16).length : Int); omega, trivial, by show ((elemsF x.1 16).length : Int) ≤ 16; omega, h5, by show (-1 : Int) < 16; decide⟩, ?_⟩
    unfold leastF
    rfl
def rleastG : List (Nat × Ctr) := [(45, rupC)]
theorem rleastG_ok : CtrsOK Tryd.prog (fun f => lk f rleastG) := (ctrs_cons rup_ok ctrs_nil)
theorem rleast_round : (fun x : (Int × List Int × Int × Int × Unit) × (DCosts × Unit) => roundOf (mkC tys rleastG [(0, leastD.spec)]) leastD (loopB 0 (bodyOf (fnOf Tryd.prog 82))) x) =
  (fun x =>
    Tree.br (decide (x.1.2.2.2.1 < x.1.2.2.1))
      (Tree.need ((0 : Int) ≤ x.1.2.2.2.1 ∧ x.1.2.2.2.1 < (↑(List.length x.1.2.1) : Int))
        (Tree.need
          ((decide (x.1.1 < (0 : Int)) == false && true) = true → (0 : Int) ≤ List.getD x.1.2.1 (Int.toNat x.1.2.2.2.1) (0 : Int) ∧ List.getD x.1.2.1 (Int.toNat x.1.2.2.2.1) (0 : Int) < (16 : Int))
          (Tree.need ((decide (x.1.1 < (0 : Int)) == false && true) = true → (0 : Int) ≤ x.1.1 ∧ x.1.1 < (16 : Int))
            (Tree.leaf
              (Ex.normal,
                some
                  ((bif
                          bif decide (x.1.1 < (0 : Int)) then true
                          else decide (List.getD x.2.1.2 (Int.toNat (List.getD x.1.2.1 (Int.toNat x.1.2.2.2.1) (0 : Int))) (0 : Int) < List.getD x.2.1.2 (Int.toNat x.1.1) (0 : Int)) then
                        List.getD x.1.2.1 (Int.toNat x.1.2.2.2.1) (0 : Int)
                      else x.1.1,
                      x.1.2.1, x.1.2.2.1, IntKind.wrap IntKind.i64 (x.1.2.2.2.1 + (1 : Int)), ()),
                    x.2.1, ()))))))
      (Tree.leaf (Ex.exit (0 : Nat), some ((x.1.1, x.1.2.1, x.1.2.2.1, x.1.2.2.2.1, ()), x.2.1, ())))) := by kernel_rfl
theorem rleast_loop : LoopOK (mkC tys rleastG [(0, leastD.spec)]) leastD.spec (loopB 0 (bodyOf (fnOf Tryd.prog 82))) :=
  loopD_ok1 (fun _ => rfl) (fun x => congrFun rleast_round x) (fun (x : (Int × List Int × Int × Int × Unit) × (DCosts × Unit)) => (x.1.2.2.1 - x.1.2.2.2.1).toNat) fun (x : (Int × List Int × Int × Int × Unit) × (DCosts × Unit)) hp => by
    obtain ⟨⟨a, l, n, i, ⟨⟩⟩, c, ⟨⟩⟩ := x
    obtain ⟨h1, h2, h3, h4, h5, h6⟩ := hp
    simp only at h1 h2 h3 h4 h5 h6
    simp only [Tree.holds]
    refine ⟨fun h => ?_, fun h => ?_⟩
    · have h' : i < n := by simpa using h
      have e : IntKind.i64.wrap (i + 1) = i + 1 := i64_id (by omega) (by omega)
      have hj := getD_in (p := fun j => 0 ≤ j ∧ j < 16) h5 h1 (by omega)
      refine ⟨⟨h1, by omega⟩, fun _ => hj, fun hh => ⟨?_, h6⟩, ?_⟩
      · by_cases hd : a < 0
        · rw [decide_eq_true hd] at hh; cases hh
        · omega
      refine ⟨_, rfl, ?_⟩
      rw [e]
      refine ⟨⟨by show 0 ≤ i + 1; omega, by show i + 1 ≤ n; omega, h3, h4, h5, leastS_in h6 hj⟩, by show (n - (i + 1)).toNat < (n - i).toNat; omega, ?_⟩
      show (Ex.exit 0, (((l.drop (i + 1).toNat).foldl (leastS c) (leastS c a (l.getD i.toNat 0)), l, n, n, ()), (c, ()))) = _
      rw [fold_drop (leastS c) a h1 (by omega)]
    · have h' : ¬ i < n := by simpa using h
      refine ⟨_, rfl, ?_⟩
      have hi : i = n := by omega
      subst hi
      show (Ex.exit 0, (((l.drop i.toNat).foldl (leastS c) a, l, i, i, ()), (c, ()))) = _
      rw [fold_over (leastS c) a (by omega)]
      rfl
theorem rleast_tree : (fun x : DCosts => evFn (mkC tys rleastG [(0, leastD.spec)]) (fnOf Tryd.prog 82) (resL leastC.args x) leastC.res) =
  (fun x =>
    Tree.need
      ((0 : Int) ≤ (0 : Int) ∧
        (0 : Int) ≤ (↑(List.length (elemsF x.1 (16 : Nat))) : Int) ∧
          (↑(List.length (elemsF x.1 (16 : Nat))) : Int) = (↑(List.length (elemsF x.1 (16 : Nat))) : Int) ∧
            (↑(List.length (elemsF x.1 (16 : Nat))) : Int) ≤ (16 : Int) ∧ (∀ (j : Int), j ∈ elemsF x.1 (16 : Nat) → (0 : Int) ≤ j ∧ j < (16 : Int)) ∧ (-1 : Int) < (16 : Int))
      (Tree.leaf (List.foldl (leastS x) (-1 : Int) (List.drop (Int.toNat (0 : Int)) (elemsF x.1 (16 : Nat)))))) := by kernel_rfl
theorem rleast_ok : CtrOK Tryd.prog 82 leastC :=
  fun_ok (G := rleastG) (Λ := [(0, leastD.spec)]) tysOK rleastG_ok mixed (by kernel_rfl) (by kernel_rfl) (by kernel_rfl) (by kernel_rfl) (lp_cons rleast_loop lp_nil) fun (x : DCosts) hw _ => by
    show (evFn (mkC tys rleastG [(0, leastD.spec)]) (fnOf Tryd.prog 82) (resL leastC.args x) leastC.res).holds (fun y => y = leastF x)
    rw [congrFun rleast_tree x]
    have h2 := elems_len x.1 16
    have h5 : ∀ j ∈ elemsF x.1 16, 0 ≤ j ∧ j < 16 := fun j hj => by
      have := elem_in (Nat.le_refl 16) hj
      exact ⟨this.1, this.2.1⟩
    simp only [Tree.holds]
    refine ⟨⟨Int.le_refl _, by show (0 : Int) ≤ ((elemsF x.1 16).length : Int); omega, trivial, by show ((elemsF x.1 16).length : Int) ≤ 16; omega, h5, by show (-1 : Int) < 16; decide⟩, ?_⟩
    unfold leastF
    rfl
def totalG : List (Nat × Ctr) := [(44, upC)]
theorem totalG_ok : CtrsOK Tryd.prog (fun f => lk f totalG) := (ctrs_cons up_ok ctrs_nil)
theorem total_round : (fun x : (Int × List Int × Int × Int × Unit) × (DCosts × Unit) => roundOf (mkC tys totalG [(0, totalD.spec)]) totalD (loopB 0 (bodyOf (fnOf Tryd.prog 83))) x) =
  (fun x =>
    Tree.br (decide (x.1.2.2.2.1 < x.1.2.2.1))
      (Tree.need ((0 : Int) ≤ x.1.2.2.2.1 ∧ x.1.2.2.2.1 < (↑(List.length x.1.2.1) : Int))
        (Tree.need ((0 : Int) ≤ List.getD x.1.2.1 (Int.toNat x.1.2.2.2.1) (0 : Int) ∧ List.getD x.1.2.1 (Int.toNat x.1.2.2.2.1) (0 : Int) < (16 : Int))
          (Tree.leaf
            (Ex.normal,
              some
                ((IntKind.wrap IntKind.u64 (x.1.1 + IntKind.wrap IntKind.u64 (List.getD x.2.1.2 (Int.toNat (List.getD x.1.2.1 (Int.toNat x.1.2.2.2.1) (0 : Int))) (0 : Int))), x.1.2.1, x.1.2.2.1,
                    IntKind.wrap IntKind.i64 (x.1.2.2.2.1 + (1 : Int)), ()),
                  x.2.1, ())))))
      (Tree.leaf (Ex.exit (0 : Nat), some ((x.1.1, x.1.2.1, x.1.2.2.1, x.1.2.2.2.1, ()), x.2.1, ())))) := by kernel_rfl
theorem total_loop : LoopOK (mkC tys totalG [(0, totalD.spec)]) totalD.spec (loopB 0 (bodyOf (fnOf Tryd.prog 83))) :=
  loopD_ok1 (fun _ => rfl) (fun x => congrFun total_round x) (fun (x : (Int × List Int × Int × Int × Unit) × (DCosts × Unit)) => (x.1.2.2.1 - x.1.2.2.2.1).toNat) fun (x : (Int × List Int × Int × Int × Unit) × (DCosts × Unit)) hp => by
    obtain ⟨⟨a, l, n, i, ⟨⟩⟩, c, ⟨⟩⟩ := x
    obtain ⟨h1, h2, h3, h4, h5⟩ := hp
    simp only at h1 h2 h3 h4 h5
    simp only [Tree.holds]
    refine ⟨fun h => ?_, fun h => ?_⟩
    · have h' : i < n := by simpa using h
      have e : IntKind.i64.wrap (i + 1) = i + 1 := i64_id (by omega) (by omega)
      have hj := getD_in (p := fun j => 0 ≤ j ∧ j < 16) h5 h1 (by omega)
      refine ⟨⟨h1, by omega⟩, hj, ?_⟩
      refine ⟨_, rfl, ?_⟩
      rw [e]
      refine ⟨⟨by show 0 ≤ i + 1; omega, by show i + 1 ≤ n; omega, h3, h4, h5⟩, by show (n - (i + 1)).toNat < (n - i).toNat; omega, ?_⟩
      show (Ex.exit 0, (((l.drop (i + 1).toNat).foldl (totalS c) (totalS c a (l.getD i.toNat 0)), l, n, n, ()), (c, ()))) = _
      rw [fold_drop (totalS c) a h1 (by omega)]
    · have h' : ¬ i < n := by simpa using h
      refine ⟨_, rfl, ?_⟩
      have hi : i = n := by omega
      subst hi
      show (Ex.exit 0, (((l.drop i.toNat).foldl (totalS c) a, l, i, i, ()), (c, ()))) = _
      rw [fold_over (totalS c) a (by omega)]
      rfl
theorem total_tree : (fun x : DCosts => evFn (mkC tys totalG [(0, totalD.spec)]) (fnOf Tryd.prog 83) (resL totalC.args x) totalC.res) =
  (fun x =>
    Tree.need
      ((0 : Int) ≤ (0 : Int) ∧
        (0 : Int) ≤ (↑(List.length (elemsF x.1 (16 : Nat))) : Int) ∧
          (↑(List.length (elemsF x.1 (16 : Nat))) : Int) = (↑(List.length (elemsF x.1 (16 : Nat))) : Int) ∧
            (↑(List.length (elemsF x.1 (16 : Nat))) : Int) ≤ (16 : Int) ∧ ∀ (j : Int), j ∈ elemsF x.1 (16 : Nat) → (0 : Int) ≤ j ∧ j < (16 : Int))
      (Tree.leaf (List.foldl (totalS x) (0 : Int) (List.drop (Int.toNat (0 : Int)) (elemsF x.1 (16 : Nat)))))) := by kernel_rfl
theorem total_ok : CtrOK Tryd.prog 83 totalC :=
  fun_ok (G := totalG) (Λ := [(0, totalD.spec)]) tysOK totalG_ok mixed (by kernel_rfl) (by kernel_rfl) (by kernel_rfl) (by kernel_rfl) (lp_cons total_loop lp_nil) fun (x : DCosts) hw _ => by
    show (evFn (mkC tys totalG [(0, totalD.spec)]) (fnOf Tryd.prog 83) (resL totalC.args x) totalC.res).holds (fun y => y = totalF x)
    rw [congrFun total_tree x]
    have h2 := elems_len x.1 16
    have h5 : ∀ j ∈ elemsF x.1 16, 0 ≤ j ∧ j < 16 := fun j hj => by
      have := elem_in (Nat.le_refl 16) hj
      exact ⟨this.1, this.2.1⟩
    simp only [Tree.holds]
    refine ⟨⟨Int.le_refl _, by show (0 : Int) ≤ ((elemsF x.1 16).length : Int); omega, trivial, by show ((elemsF x.1 16).length : Int) ≤ 16; omega, h5⟩, ?_⟩
    unfold totalF
    rfl
def rtotalG : List (Nat × Ctr) := [(45, rupC)]
theorem rtotalG_ok : CtrsOK Tryd.prog (fun f => lk f rtotalG) := (ctrs_cons rup_ok ctrs_nil)
theorem rtotal_round : (fun x : (Int × List Int × Int × Int × Unit) × (DCosts × Unit) => roundOf (mkC tys rtotalG [(0, totalD.spec)]) totalD (loopB 0 (bodyOf (fnOf Tryd.prog 84))) x) =
  (fun x =>
    Tree.br (decide (x.1.2.2.2.1 < x.1.2.2.1))
      (Tree.need ((0 : Int) ≤ x.1.2.2.2.1 ∧ x.1.2.2.2.1 < (↑(List.length x.1.2.1) : Int))
        (Tree.need ((0 : Int) ≤ List.getD x.1.2.1 (Int.toNat x.1.2.2.2.1) (0 : Int) ∧ List.getD x.1.2.1 (Int.toNat x.1.2.2.2.1) (0 : Int) < (16 : Int))
          (Tree.leaf
            (Ex.normal,
              some
                ((IntKind.wrap IntKind.u64 (x.1.1 + IntKind.wrap IntKind.u64 (List.getD x.2.1.2 (Int.toNat (List.getD x.1.2.1 (Int.toNat x.1.2.2.2.1) (0 : Int))) (0 : Int))), x.1.2.1, x.1.2.2.1,
                    IntKind.wrap IntKind.i64 (x.1.2.2.2.1 + (1 : Int)), ()),
                  x.2.1, ())))))
      (Tree.leaf (Ex.exit (0 : Nat), some ((x.1.1, x.1.2.1, x.1.2.2.1, x.1.2.2.2.1, ()), x.2.1, ())))) := by kernel_rfl
theorem rtotal_loop : LoopOK (mkC tys rtotalG [(0, totalD.spec)]) totalD.spec (loopB 0 (bodyOf (fnOf Tryd.prog 84))) :=
  loopD_ok1 (fun _ => rfl) (fun x => congrFun rtotal_round x) (fun (x : (Int × List Int × Int × Int × Unit) × (DCosts × Unit)) => (x.1.2.2.1 - x.1.2.2.2.1).toNat) fun (x : (Int × List Int × Int × Int × Unit) × (DCosts × Unit)) hp => by
    obtain ⟨⟨a, l, n, i, ⟨⟩⟩, c, ⟨⟩⟩ := x
    obtain ⟨h1, h2, h3, h4, h5⟩ := hp
    simp only at h1 h2 h3 h4 h5
    simp only [Tree.holds]
    refine ⟨fun h => ?_, fun h => ?_⟩
    · have h' : i < n := by simpa using h
      have e : IntKind.i64.wrap (i + 1) = i + 1 := i64_id (by omega) (by omega)
      have hj := getD_in (p := fun j => 0 ≤ j ∧ j < 16) h5 h1 (by omega)
      refine ⟨⟨h1, by omega⟩, hj, ?_⟩
      refine ⟨_, rfl, ?_⟩
      rw [e]
      refine ⟨⟨by show 0 ≤ i + 1; omega, by show i + 1 ≤ n; omega, h3, h4, h5⟩, by show (n - (i + 1)).toNat < (n - i).toNat; omega, ?_⟩
      show (Ex.exit 0, (((l.drop (i + 1).toNat).foldl (totalS c) (totalS c a (l.getD i.toNat 0)), l, n, n, ()), (c, ()))) = _
      rw [fold_drop (totalS c) a h1 (by omega)]
    · have h' : ¬ i < n := by simpa using h
      refine ⟨_, rfl, ?_⟩
      have hi : i = n := by omega
      subst hi
      show (Ex.exit 0, (((l.drop i.toNat).foldl (totalS c) a, l, i, i, ()), (c, ()))) = _
      rw [fold_over (totalS c) a (by omega)]
      rfl
theorem rtotal_tree : (fun x : DCosts => evFn (mkC tys rtotalG [(0, totalD.spec)]) (fnOf Tryd.prog 84) (resL totalC.args x) totalC.res) =
  (fun x =>
    Tree.need
      ((0 : Int) ≤ (0 : Int) ∧
        (0 : Int) ≤ (↑(List.length (elemsF x.1 (16 : Nat))) : Int) ∧
          (↑(List.length (elemsF x.1 (16 : Nat))) : Int) = (↑(List.length (elemsF x.1 (16 : Nat))) : Int) ∧
            (↑(List.length (elemsF x.1 (16 : Nat))) : Int) ≤ (16 : Int) ∧ ∀ (j : Int), j ∈ elemsF x.1 (16 : Nat) → (0 : Int) ≤ j ∧ j < (16 : Int))
      (Tree.leaf (List.foldl (totalS x) (0 : Int) (List.drop (Int.toNat (0 : Int)) (elemsF x.1 (16 : Nat)))))) := by kernel_rfl
theorem rtotal_ok : CtrOK Tryd.prog 84 totalC :=
  fun_ok (G := rtotalG) (Λ := [(0, totalD.spec)]) tysOK rtotalG_ok mixed (by kernel_rfl) (by kernel_rfl) (by kernel_rfl) (by kernel_rfl) (lp_cons rtotal_loop lp_nil) fun (x : DCosts) hw _ => by
    show (evFn (mkC tys rtotalG [(0, totalD.spec)]) (fnOf Tryd.prog 84) (resL totalC.args x) totalC.res).holds (fun y => y = totalF x)
    rw [congrFun rtotal_tree x]
    have h2 := elems_len x.1 16
    have h5 : ∀ j ∈ elemsF x.1 16, 0 ≤ j ∧ j < 16 := fun j hj => by
      have := elem_in (Nat.le_refl 16) hj
      exact ⟨this.1, this.2.1⟩
    simp only [Tree.holds]
    refine ⟨⟨Int.le_refl _, by show (0 : Int) ≤ ((elemsF x.1 16).length : Int); omega, trivial, by show ((elemsF x.1 16).length : Int) ≤ 16; omega, h5⟩, ?_⟩
    unfold totalF
    rfl
def diffG : List (Nat × Ctr) := [(48, ofC), (100, withC)]
theorem diffG_ok : CtrsOK Tryd.prog (fun f => lk f diffG) := (ctrs_cons of_ok (ctrs_cons with_ok ctrs_nil))
theorem diff_round : (fun x : (Int × Int × Unit) × (DCosts × DCosts × Unit) => roundOf (mkC tys diffG [(0, diffD.spec)]) diffD (loopB 0 (bodyOf (fnOf Tryd.prog 85))) x) =
  (fun x =>
    Tree.br (decide (x.1.2.1 < (16 : Int)))
      (Tree.leaf (Ex.normal, some ((bif ofF x.2.1 x.1.2.1 != ofF x.2.2.1 x.1.2.1 then withF x.1.1 x.1.2.1 else x.1.1, IntKind.wrap IntKind.i64 (x.1.2.1 + (1 : Int)), ()), x.2.1, x.2.2.1, ())))
      (Tree.leaf (Ex.exit (0 : Nat), some ((x.1.1, x.1.2.1, ()), x.2.1, x.2.2.1, ())))) := by kernel_rfl
theorem diff_loop : LoopOK (mkC tys diffG [(0, diffD.spec)]) diffD.spec (loopB 0 (bodyOf (fnOf Tryd.prog 85))) :=
  loopD_ok1 (fun _ => rfl) (fun x => congrFun diff_round x) (fun (x : (Int × Int × Unit) × (DCosts × DCosts × Unit)) => (16 - x.1.2.1).toNat) fun (x : (Int × Int × Unit) × (DCosts × DCosts × Unit)) hp => by
    obtain ⟨⟨s, i, ⟨⟩⟩, a, b, ⟨⟩⟩ := x
    obtain ⟨h1, h2⟩ := hp
    simp only at h1 h2
    simp only [Tree.holds]
    refine ⟨fun h => ?_, fun h => ?_⟩
    · have h' : i < 16 := by simpa using h
      have e : IntKind.i64.wrap (i + 1) = i + 1 := i64_id (by omega) (by omega)
      refine ⟨_, rfl, ?_⟩
      rw [e]
      refine ⟨⟨by show 0 ≤ i + 1; omega, by show i + 1 ≤ 16; omega⟩, by show (16 - (i + 1)).toNat < (16 - i).toNat; omega, ?_⟩
      show (Ex.exit 0, ((diffK a b (16 - (i + 1)).toNat (bif ofF a i != ofF b i then withF s i else s), 16, ()), (a, b, ()))) = _
      rw [diffK_step h1 h']
    · have h' : ¬ i < 16 := by simpa using h
      have hi : i = 16 := by omega
      subst hi
      refine ⟨_, rfl, ?_⟩
      show (Ex.exit 0, ((diffK a b (16 - (16 : Int)).toNat s, 16, ()), (a, b, ()))) = _
      rw [diffK_end]; rfl
theorem diff_tree : (fun x : DCosts × DCosts => evFn (mkC tys diffG [(0, diffD.spec)]) (fnOf Tryd.prog 85) (resL diffC.args x) diffC.res) =
  (fun x => Tree.need ((0 : Int) ≤ (0 : Int) ∧ (0 : Int) ≤ (16 : Int)) (Tree.leaf (diffK x.1 x.2 (Int.toNat ((16 : Int) - (0 : Int))) (0 : Int)))) := by kernel_rfl
theorem diff_ok : CtrOK Tryd.prog 85 diffC :=
  fun_ok (G := diffG) (Λ := [(0, diffD.spec)]) tysOK diffG_ok mixed (by kernel_rfl) (by kernel_rfl) (by kernel_rfl) (by kernel_rfl) (lp_cons diff_loop lp_nil) fun (x : DCosts × DCosts) hw _ => by
    rw [congrFun diff_tree x]
    simp only [Tree.holds]
    exact ⟨⟨by omega, by omega⟩, diffF_eq x.1 x.2⟩
def rdiffG : List (Nat × Ctr) := [(49, rofC), (101, rwithC)]
theorem rdiffG_ok : CtrsOK Tryd.prog (fun f => lk f rdiffG) := (ctrs_cons rof_ok (ctrs_cons rwith_ok ctrs_nil))
theorem rdiff_round : (fun x : (Int × Int × Unit) × (DCosts × DCosts × Unit) => roundOf (mkC tys rdiffG [(0, diffD.spec)]) diffD (loopB 0 (bodyOf (fnOf Tryd.prog 86))) x) =
  (fun x =>
    Tree.br (decide (x.1.2.1 < (16 : Int)))
      (Tree.leaf (Ex.normal, some ((bif ofF x.2.1 x.1.2.1 != ofF x.2.2.1 x.1.2.1 then withF x.1.1 x.1.2.1 else x.1.1, IntKind.wrap IntKind.i64 (x.1.2.1 + (1 : Int)), ()), x.2.1, x.2.2.1, ())))
      (Tree.leaf (Ex.exit (0 : Nat), some ((x.1.1, x.1.2.1, ()), x.2.1, x.2.2.1, ())))) := by kernel_rfl
theorem rdiff_loop : LoopOK (mkC tys rdiffG [(0, diffD.spec)]) diffD.spec (loopB 0 (bodyOf (fnOf Tryd.prog 86))) :=
  loopD_ok1 (fun _ => rfl) (fun x => congrFun rdiff_round x) (fun (x : (Int × Int × Unit) × (DCosts × DCosts × Unit)) => (16 - x.1.2.1).toNat) fun (x : (Int × Int × Unit) × (DCosts × DCosts × Unit)) hp => by
    obtain ⟨⟨s, i, ⟨⟩⟩, a, b, ⟨⟩⟩ := x
    obtain ⟨h1, h2⟩ := hp
    simp only at h1 h2
    simp only [Tree.holds]
    refine ⟨fun h => ?_, fun h => ?_⟩
    · have h' : i < 16 := by simpa using h
      have e : IntKind.i64.wrap (i + 1) = i + 1 := i64_id (by omega) (by omega)
      refine ⟨_, rfl, ?_⟩
      rw [e]
      refine ⟨⟨by show 0 ≤ i + 1; omega, by show i + 1 ≤ 16; omega⟩, by show (16 - (i + 1)).toNat < (16 - i).toNat; omega, ?_⟩
      show (Ex.exit 0, ((diffK a b (16 - (i + 1)).toNat (bif ofF a i != ofF b i then withF s i else s), 16, ()), (a, b, ()))) = _
      rw [diffK_step h1 h']
    · have h' : ¬ i < 16 := by simpa using h
      have hi : i = 16 := by omega
      subst hi
      refine ⟨_, rfl, ?_⟩
      show (Ex.exit 0, ((diffK a b (16 - (16 : Int)).toNat s, 16, ()), (a, b, ()))) = _
      rw [diffK_end]; rfl
theorem rdiff_tree : (fun x : DCosts × DCosts => evFn (mkC tys rdiffG [(0, diffD.spec)]) (fnOf Tryd.prog 86) (resL diffC.args x) diffC.res) =
  (fun x => Tree.need ((0 : Int) ≤ (0 : Int) ∧ (0 : Int) ≤ (16 : Int)) (Tree.leaf (diffK x.1 x.2 (Int.toNat ((16 : Int) - (0 : Int))) (0 : Int)))) := by kernel_rfl
theorem rdiff_ok : CtrOK Tryd.prog 86 diffC :=
  fun_ok (G := rdiffG) (Λ := [(0, diffD.spec)]) tysOK rdiffG_ok mixed (by kernel_rfl) (by kernel_rfl) (by kernel_rfl) (by kernel_rfl) (lp_cons rdiff_loop lp_nil) fun (x : DCosts × DCosts) hw _ => by
    rw [congrFun rdiff_tree x]
    simp only [Tree.holds]
    exact ⟨⟨by omega, by omega⟩, diffF_eq x.1 x.2⟩
end Go.Ev.D
/- What is said of links answers true. -/
set_option linter.unusedVariables false
set_option linter.unusedSimpArgs false
namespace Go.Ev.D
open Go.Proofs
def awake14C : Ctr := { args := [], res := [.bool], pre := none, fn := fun (x : Unit) => true }
def awake14G : List (Nat × Ctr) := [(42, csetC), (48, ofC), (46, cutC), (44, upC), (50, soundC), (52, costtC)]
theorem awake14_tree : (fun x : Unit => evFn (mkC tys awake14G [] true) (fnOf Tryd.prog 54) (resL awake14C.args x) awake14C.res) =
  (fun x => Tree.leaf true) := by kernel_rfl
theorem awake14_ok : CtrOK Tryd.prog 54 awake14C :=
  fun_okX true (G := awake14G) (Λ := []) tysOK (ctrs_cons cset_ok (ctrs_cons of_ok (ctrs_cons cut_ok (ctrs_cons up_ok (ctrs_cons sound_ok (ctrs_cons costt_ok ctrs_nil)))))) mixed (by kernel_rfl) (by kernel_rfl) (by kernel_rfl) (by kernel_rfl) lp_nil fun (x : Unit) hw _ => by
    rw [congrFun awake14_tree x]
    exact holds_val (d := awake14C.fn x) (by kernel_rfl) (by simp [Tree.safe])
def cossayG : List (Nat × Ctr) := [(42, csetC), (43, rcsetC), (44, upC), (45, rupC), (46, cutC), (47, rcutC), (48, ofC), (49, rofC), (50, soundC), (51, rsoundC), (52, costtC), (53, rcosttC), (54, awake14C)]
theorem cossayG_ok : CtrsOK Tryd.prog (fun f => lk f cossayG) := (ctrs_cons cset_ok (ctrs_cons rcset_ok (ctrs_cons up_ok (ctrs_cons rup_ok (ctrs_cons cut_ok (ctrs_cons rcut_ok (ctrs_cons of_ok (ctrs_cons rof_ok (ctrs_cons sound_ok (ctrs_cons rsound_ok (ctrs_cons costt_ok (ctrs_cons rcostt_ok (ctrs_cons awake14_ok ctrs_nil)))))))))))))
def cossayC : Ctr := { args := [gCosts, .int .i64, .int .u32], res := [.bool], pre := some (smallD [gCosts, .int .i64, .int .u32]), fn := fun _ => true }
def cossayD : LoopD where
  prom := []
  ts := [(6, .val .bool), (11, .val (.sl (.int .i64))), (12, .val (.sl (.int .i64))), (38, .val (.int .i64)), (39, .val (.int .i64))]
  bs := []
  pre := fun (x : (Bool × List Int × List Int × Int × Int × Unit) × Unit) => 0 ≤ x.1.2.2.2.2.1 ∧ x.1.2.2.2.2.1 ≤ x.1.2.2.2.1 ∧ x.1.2.2.2.1 = x.1.2.1.length ∧ x.1.2.2.2.1 ≤ 16 ∧ x.1.2.2.1 = x.1.2.1
  out := fun (x : (Bool × List Int × List Int × Int × Int × Unit) × Unit) => .leaf (.exit 0, ((x.1.1, x.1.2.1, x.1.2.2.1, x.1.2.2.2.1, x.1.2.2.2.1, ()), ()))
theorem cossay_round : (fun x : (Bool × List Int × List Int × Int × Int × Unit) × Unit => roundOf (mkC tys cossayG [(0, cossayD.spec)]) cossayD (loopB 0 (bodyOf (fnOf Tryd.prog 7))) x) =
  (fun x =>
    Tree.br (decide (x.1.2.2.2.2.1 < x.1.2.2.2.1))
      (Tree.need ((0 : Int) ≤ x.1.2.2.2.2.1 ∧ x.1.2.2.2.2.1 < (↑(List.length x.1.2.1) : Int))
        (Tree.need ((0 : Int) ≤ x.1.2.2.2.2.1 ∧ x.1.2.2.2.2.1 < (↑(List.length x.1.2.2.1) : Int))
          (Tree.br (List.getD x.1.2.1 (Int.toNat x.1.2.2.2.2.1) (0 : Int) != List.getD x.1.2.2.1 (Int.toNat x.1.2.2.2.2.1) (0 : Int))
            (Tree.leaf (Ex.ret, some ((false, x.1.2.1, x.1.2.2.1, x.1.2.2.2.1, x.1.2.2.2.2.1, ()), ())))
            (Tree.leaf (Ex.normal, some ((x.1.1, x.1.2.1, x.1.2.2.1, x.1.2.2.2.1, IntKind.wrap IntKind.i64 (x.1.2.2.2.2.1 + (1 : Int)), ()), ()))))))
      (Tree.leaf (Ex.exit (0 : Nat), some ((x.1.1, x.1.2.1, x.1.2.2.1, x.1.2.2.2.1, x.1.2.2.2.2.1, ()), ())))) := by kernel_rfl
theorem cossay_loop : LoopOK (mkC tys cossayG [(0, cossayD.spec)]) cossayD.spec (loopB 0 (bodyOf (fnOf Tryd.prog 7))) :=
  loopD_ok1 (fun _ => rfl) (fun x => congrFun cossay_round x) (fun (x : (Bool × List Int × List Int × Int × Int × Unit) × Unit) => (x.1.2.2.2.1 - x.1.2.2.2.2.1).toNat) fun (x : (Bool × List Int × List Int × Int × Int × Unit) × Unit) hp => by
    obtain ⟨⟨r, l, k, n, i, ⟨⟩⟩, ⟨⟩⟩ := x
    obtain ⟨h1, h2, h3, h4, h5⟩ := hp
    simp only at h1 h2 h3 h4 h5
    subst h5
    simp only [Tree.holds]
    refine ⟨fun h => ?_, fun h => ?_⟩
    · have h' : i < n := by simpa using h
      have e : IntKind.i64.wrap (i + 1) = i + 1 := i64_id (by omega) (by omega)
      refine ⟨⟨h1, by omega⟩, ⟨h1, by omega⟩, fun h7 => ?_, fun h7 => ⟨_, rfl, ⟨?_, ?_, h3, h4, rfl⟩, ?_, rfl⟩⟩
      · exfalso; simp at h7
      · show 0 ≤ IntKind.i64.wrap (i + 1); omega
      · show IntKind.i64.wrap (i + 1) ≤ n; omega
      · show (n - IntKind.i64.wrap (i + 1)).toNat < (n - i).toNat; omega
    · have h' : ¬ i < n := by simpa using h
      have hi : i = n := by omega
      subst hi
      exact ⟨_, rfl, rfl⟩
theorem cossay_tree : (fun x : DCosts × Int × Int => evFn (mkC tys cossayG [(0, cossayD.spec)]) (fnOf Tryd.prog 7) (resL cossayC.args x) cossayC.res) =
  (fun x =>
    Tree.br ((↑(List.length (elemsF x.1.1 (16 : Nat))) : Int) != (↑(List.length (elemsF x.1.1 (16 : Nat))) : Int)) (Tree.leaf false)
      (Tree.need
        ((0 : Int) ≤ (0 : Int) ∧
          (0 : Int) ≤ (↑(List.length (elemsF x.1.1 (16 : Nat))) : Int) ∧
            (↑(List.length (elemsF x.1.1 (16 : Nat))) : Int) = (↑(List.length (elemsF x.1.1 (16 : Nat))) : Int) ∧
              (↑(List.length (elemsF x.1.1 (16 : Nat))) : Int) ≤ (16 : Int) ∧ elemsF x.1.1 (16 : Nat) = elemsF x.1.1 (16 : Nat))
        (Tree.leaf
          (bif
              bif
                  bif
                      bif
                          bif
                              bif geq (GTy.prod (GTy.int IntKind.i64) (GTy.arr (16 : Nat) (GTy.int IntKind.u32))) (csetF x.1 x.2.1 x.2.2).1 (csetF x.1 x.2.1 x.2.2).1 then
                                (csetF x.1 x.2.1 x.2.2).2 == (csetF x.1 x.2.1 x.2.2).2
                              else false then
                            geq (GTy.prod (GTy.int IntKind.i64) (GTy.arr (16 : Nat) (GTy.int IntKind.u32))) (cutF x.1 x.2.1) (cutF x.1 x.2.1)
                          else false then
                        ofF x.1 x.2.1 == ofF x.1 x.2.1
                      else false then
                    geq GTy.bool (soundF x.1) (soundF x.1)
                  else false then
                linksT x.1 == linksT x.1
              else false then
            true
          else false)))) := by kernel_rfl
theorem cossay_ok : CtrOK Tryd.prog 7 cossayC :=
  fun_ok (G := cossayG) (Λ := [(0, cossayD.spec)]) tysOK cossayG_ok mixed (by kernel_rfl) (by kernel_rfl) (by kernel_rfl) (by kernel_rfl) (lp_cons cossay_loop lp_nil) fun (x : DCosts × Int × Int) hw _ => by
    rw [congrFun cossay_tree x]
    have hl := elems_len x.1.1 16
    have e : cossayC.fn x = true := rfl
    rw [e]
    simp only [Tree.holds]
    refine ⟨fun h => ?_, fun _ => ⟨⟨by omega, by omega, trivial, by omega, trivial⟩, ?_⟩⟩
    · exfalso; simp at h
    · rw [geq_self gCosts _ rfl, geq_self gCosts _ rfl, geq_self .bool _ rfl]
      simp
      rfl
def cossndG : List (Nat × Ctr) := [(54, awake14C), (46, cutC), (48, ofC), (42, csetC), (50, soundC)]
theorem cossndG_ok : CtrsOK Tryd.prog (fun f => lk f cossndG) := (ctrs_cons awake14_ok (ctrs_cons cut_ok (ctrs_cons of_ok (ctrs_cons cset_ok (ctrs_cons sound_ok ctrs_nil)))))
abbrev DOp := Bool × Int × Int
def opF (c : DCosts) (o : DOp) : DCosts := bif o.1 then cutF c o.2.1 else (csetF c o.2.1 o.2.2).1
abbrev gOp : GTy := .prod .bool (.prod (.int .i64) (.int .u32))
def cossndC : Ctr := { args := [.sl gOp], res := [.bool], pre := some (smallD [.sl gOp]), fn := fun _ => true }
def cossndD : LoopD where
  prom := []
  ts := [(2, .val .bool), (3, .ptr 3 gCosts), (13, .val (.sl gOp)), (14, .val (.int .i64)), (15, .val (.int .i64))]
  bs := [(3, .var gCosts)]
  pre := fun (x : (Bool × List DOp × Int × Int × Unit) × (DCosts × Unit)) => 0 ≤ x.1.2.2.2.1 ∧ x.1.2.2.2.1 ≤ x.1.2.2.1 ∧ x.1.2.2.1 = x.1.2.1.length ∧ x.1.2.2.1 ≤ 200 ∧ x.2.1.2.length = 16 ∧ soundF x.2.1 = true
  out := fun (x : (Bool × List DOp × Int × Int × Unit) × (DCosts × Unit)) => .leaf (.exit 0, ((x.1.1, x.1.2.1, x.1.2.2.1, x.1.2.2.1, ()), ((x.1.2.1.drop x.1.2.2.2.1.toNat).foldl opF x.2.1, ())))
theorem cossnd_round : (fun x : (Bool × List DOp × Int × Int × Unit) × (DCosts × Unit) => roundOf (mkC tys cossndG [(0, cossndD.spec)]) cossndD (loopB 0 (bodyOf (fnOf Tryd.prog 8))) x) =
  (fun x =>
    Tree.br (decide (x.1.2.2.2.1 < x.1.2.2.1))
      (Tree.need ((0 : Int) ≤ x.1.2.2.2.1 ∧ x.1.2.2.2.1 < (↑(List.length x.1.2.1) : Int))
        (Tree.br (List.getD x.1.2.1 (Int.toNat x.1.2.2.2.1) (false, (0 : Int), (0 : Int))).1
          (Tree.br
            (ofF (cutF x.2.1 (List.getD x.1.2.1 (Int.toNat x.1.2.2.2.1) (false, (0 : Int), (0 : Int))).2.1) (List.getD x.1.2.1 (Int.toNat x.1.2.2.2.1) (false, (0 : Int), (0 : Int))).2.1 !=
              (4294967295 : Int))
            (Tree.leaf (Ex.ret, some ((false, x.1.2.1, x.1.2.2.1, x.1.2.2.2.1, ()), cutF x.2.1 (List.getD x.1.2.1 (Int.toNat x.1.2.2.2.1) (false, (0 : Int), (0 : Int))).2.1, ())))
            (Tree.br (!soundF (cutF x.2.1 (List.getD x.1.2.1 (Int.toNat x.1.2.2.2.1) (false, (0 : Int), (0 : Int))).2.1))
              (Tree.leaf (Ex.ret, some ((false, x.1.2.1, x.1.2.2.1, x.1.2.2.2.1, ()), cutF x.2.1 (List.getD x.1.2.1 (Int.toNat x.1.2.2.2.1) (false, (0 : Int), (0 : Int))).2.1, ())))
              (Tree.leaf
                (Ex.normal,
                  some
                    ((x.1.1, x.1.2.1, x.1.2.2.1, IntKind.wrap IntKind.i64 (x.1.2.2.2.1 + (1 : Int)), ()), cutF x.2.1 (List.getD x.1.2.1 (Int.toNat x.1.2.2.2.1) (false, (0 : Int), (0 : Int))).2.1,
                      ())))))
          (Tree.br
            (bif
                bif
                    (csetF x.2.1 (List.getD x.1.2.1 (Int.toNat x.1.2.2.2.1) (false, (0 : Int), (0 : Int))).2.1 (List.getD x.1.2.1 (Int.toNat x.1.2.2.2.1) (false, (0 : Int), (0 : Int))).2.2).2 ==
                      (0 : Int) then
                  ofF (csetF x.2.1 (List.getD x.1.2.1 (Int.toNat x.1.2.2.2.1) (false, (0 : Int), (0 : Int))).2.1 (List.getD x.1.2.1 (Int.toNat x.1.2.2.2.1) (false, (0 : Int), (0 : Int))).2.2).1
                      (List.getD x.1.2.1 (Int.toNat x.1.2.2.2.1) (false, (0 : Int), (0 : Int))).2.1 !=
                    (List.getD x.1.2.1 (Int.toNat x.1.2.2.2.1) (false, (0 : Int), (0 : Int))).2.2
                else false then
              true
            else
              bif
                  (csetF x.2.1 (List.getD x.1.2.1 (Int.toNat x.1.2.2.2.1) (false, (0 : Int), (0 : Int))).2.1 (List.getD x.1.2.1 (Int.toNat x.1.2.2.2.1) (false, (0 : Int), (0 : Int))).2.2).2 !=
                    (0 : Int) then
                !geq (GTy.prod (GTy.int IntKind.i64) (GTy.arr (16 : Nat) (GTy.int IntKind.u32)))
                    (csetF x.2.1 (List.getD x.1.2.1 (Int.toNat x.1.2.2.2.1) (false, (0 : Int), (0 : Int))).2.1 (List.getD x.1.2.1 (Int.toNat x.1.2.2.2.1) (false, (0 : Int), (0 : Int))).2.2).1 x.2.1
              else false)
            (Tree.leaf (Ex.ret, some ((false, x.1.2.1, x.1.2.2.1, x.1.2.2.2.1, ()), x.2.1, ())))
            (Tree.br (!soundF (csetF x.2.1 (List.getD x.1.2.1 (Int.toNat x.1.2.2.2.1) (false, (0 : Int), (0 : Int))).2.1 (List.getD x.1.2.1 (Int.toNat x.1.2.2.2.1) (false, (0 : Int), (0 : Int))).2.2).1)
              (Tree.leaf
                (Ex.ret,
                  some
                    ((false, x.1.2.1, x.1.2.2.1, x.1.2.2.2.1, ()),
                      (csetF x.2.1 (List.getD x.1.2.1 (Int.toNat x.1.2.2.2.1) (false, (0 : Int), (0 : Int))).2.1 (List.getD x.1.2.1 (Int.toNat x.1.2.2.2.1) (false, (0 : Int), (0 : Int))).2.2).1, ())))
              (Tree.leaf
                (Ex.normal,
                  some
                    ((x.1.1, x.1.2.1, x.1.2.2.1, IntKind.wrap IntKind.i64 (x.1.2.2.2.1 + (1 : Int)), ()),
                      (csetF x.2.1 (List.getD x.1.2.1 (Int.toNat x.1.2.2.2.1) (false, (0 : Int), (0 : Int))).2.1 (List.getD x.1.2.1 (Int.toNat x.1.2.2.2.1) (false, (0 : Int), (0 : Int))).2.2).1,
                      ())))))))
      (Tree.leaf (Ex.exit (0 : Nat), some ((x.1.1, x.1.2.1, x.1.2.2.1, x.1.2.2.2.1, ()), x.2.1, ())))) := by kernel_rfl
theorem cossnd_loop : LoopOK (mkC tys cossndG [(0, cossndD.spec)]) cossndD.spec (loopB 0 (bodyOf (fnOf Tryd.prog 8))) :=
  loopD_ok1 (fun _ => rfl) (fun x => congrFun cossnd_round x) (fun (x : (Bool × List DOp × Int × Int × Unit) × (DCosts × Unit)) => (x.1.2.2.1 - x.1.2.2.2.1).toNat) fun (x : (Bool × List DOp × Int × Int × Unit) × (DCosts × Unit)) hp => by
    obtain ⟨⟨r, l, n, i, ⟨⟩⟩, c, ⟨⟩⟩ := x
    obtain ⟨h1, h2, h3, h4, h5, h6⟩ := hp
    simp only at h1 h2 h3 h4 h5 h6
    simp only [Tree.holds]
    refine ⟨fun h => ?_, fun h => ?_⟩
    · have h' : i < n := by simpa using h
      have e : IntKind.i64.wrap (i + 1) = i + 1 := i64_id (by omega) (by omega)
      have hd := drop_step (l := l) ((false, 0, 0) : DOp) h1 (by omega)
      generalize l.getD i.toNat (false, 0, 0) = o at hd ⊢
      have hend : ∀ d, opF c o = d → soundF d = true ∧ d.2.length = 16 → (0 ≤ IntKind.i64.wrap (i + 1) ∧ IntKind.i64.wrap (i + 1) ≤ n ∧ n = l.length ∧ n ≤ 200 ∧ d.2.length = 16 ∧ soundF d = true) ∧ (n - IntKind.i64.wrap (i + 1)).toNat < (n - i).toNat ∧
          (Ex.exit 0, ((r, l, n, n, ()), ((l.drop (IntKind.i64.wrap (i + 1)).toNat).foldl opF d, ()))) = (Ex.exit 0, ((r, l, n, n, ()), ((l.drop i.toNat).foldl opF c, ()))) := by
        rintro d rfl ⟨q1, q2⟩
        rw [e, hd]
        exact ⟨⟨by omega, by omega, h3, h4, q2, q1⟩, by omega, rfl⟩
      refine ⟨⟨h1, by omega⟩, fun hc => ⟨fun hb => ?_, fun _ => ⟨fun hb => ?_, fun _ => ⟨_, rfl, hend _ ?_ ?_⟩⟩⟩, fun hc => ⟨fun hb => ?_, fun _ => ⟨fun hb => ?_, fun _ => ⟨_, rfl, hend _ ?_ ?_⟩⟩⟩⟩
      · exfalso; rw [(sound_cut h5 h6).2.2] at hb; cases hb
      · exfalso; rw [(sound_cut h5 h6).1] at hb; cases hb
      · unfold opF; rw [hc]; rfl
      · exact ⟨(sound_cut h5 h6).1, (sound_cut h5 h6).2.1⟩
      · exfalso
        have q := sound_set (n := o.2.1) (w := o.2.2) h5 h6
        cases hz : ((csetF c o.2.1 o.2.2).2 == 0) with
        | true =>
          rw [q.2.2 hz] at hb
          simp [bne, hz] at hb
        | false =>
          rw [set_err hz, geq_self gCosts _ rfl] at hb
          simp [bne, hz] at hb
      · exfalso; rw [(sound_set h5 h6).1] at hb; cases hb
      · unfold opF; rw [hc]; rfl
      · exact ⟨(sound_set h5 h6).1, (sound_set h5 h6).2.1⟩
    · have h' : ¬ i < n := by simpa using h
      have hi : i = n := by omega
      subst hi
      refine ⟨_, rfl, ?_⟩
      show (Ex.exit 0, ((r, l, i, i, ()), ((l.drop i.toNat).foldl opF c, ()))) = _
      rw [List.drop_eq_nil_of_le (by omega)]
      rfl
theorem cossnd_tree : (fun x : List DOp => evFn (mkC tys cossndG [(0, cossndD.spec)]) (fnOf Tryd.prog 8) (resL cossndC.args x) cossndC.res) =
  (fun x =>
    Tree.br (decide ((↑(List.length x) : Int) > (200 : Int))) (Tree.leaf true)
      (Tree.need
        ((0 : Int) ≤ (0 : Int) ∧
          (0 : Int) ≤ (↑(List.length x) : Int) ∧
            (↑(List.length x) : Int) = (↑(List.length x) : Int) ∧ (↑(List.length x) : Int) ≤ (200 : Int) ∧ (16 : Nat) = (16 : Nat) ∧ soundF ((0 : Int), List.replicate (16 : Nat) (0 : Int)) = true)
        (Tree.leaf true))) := by kernel_rfl
theorem cossnd_ok : CtrOK Tryd.prog 8 cossndC :=
  fun_ok (G := cossndG) (Λ := [(0, cossndD.spec)]) tysOK cossndG_ok mixed (by kernel_rfl) (by kernel_rfl) (by kernel_rfl) (by kernel_rfl) (lp_cons cossnd_loop lp_nil) fun (x : List DOp) hw _ => by
    rw [congrFun cossnd_tree x]
    have e : cossndC.fn x = true := rfl
    rw [e]
    simp only [Tree.holds]
    refine ⟨fun _ => rfl, fun h => ⟨⟨by omega, by omega, trivial, ?_, trivial, by kernel_rfl⟩, rfl⟩⟩
    have : ¬ (x.length : Int) > 200 := by simpa using h
    omega
end Go.Ev.D
/- What is asked of links read. -/
set_option linter.unusedVariables false
set_option linter.unusedSimpArgs false
namespace Go.Ev.D
open Go.Proofs
noncomputable def rcparC : Ctr := cparC
def rleastC : Ctr := leastC
def rtotalC : Ctr := totalC
def rdiffC : Ctr := diffC
noncomputable def creadsG : List (Nat × Ctr) := [(54, awake14C), (79, cparC), (80, rcparC), (81, leastC), (82, rleastC), (83, totalC), (84, rtotalC), (85, diffC), (86, rdiffC), (50, soundC), (52, costtC), (87, ncountC)]
theorem creadsG_ok : CtrsOK Tryd.prog (fun f => lk f creadsG) := (ctrs_cons awake14_ok (ctrs_cons cpar_ok (ctrs_cons rcpar_ok (ctrs_cons least_ok (ctrs_cons rleast_ok (ctrs_cons total_ok (ctrs_cons rtotal_ok (ctrs_cons diff_ok (ctrs_cons rdiff_ok (ctrs_cons sound_ok (ctrs_cons costt_ok (ctrs_cons ncount_ok ctrs_nil))))))))))))
def creadsC : Ctr := { args := [gCosts, gCosts, .str], res := [.bool], pre := some (smallD [gCosts, gCosts, .str]), fn := fun _ => true }
theorem creads_tree : (fun x : DCosts × DCosts × List UInt8 => evFn (mkC tys creadsG []) (fnOf Tryd.prog 15) (resL creadsC.args x) creadsC.res) =
  (fun x =>
    Tree.br (decide ((↑(List.length x.2.2) : Int) > (600 : Int))) (Tree.leaf true)
      (Tree.need (List.length x.2.2 ≤ (1000 : Nat))
        (Tree.need (List.length x.2.2 ≤ (1000 : Nat))
          (Tree.br
            (bif
                bif
                    bif
                        bif
                            bif !geq (GTy.prod (GTy.int IntKind.i64) (GTy.arr (16 : Nat) (GTy.int IntKind.u32))) (lparseF x.2.2).1 (lparseF x.2.2).1 then true
                            else (lparseF x.2.2).2 != (lparseF x.2.2).2 then
                          true
                        else leastF x.1 != leastF x.1 then
                      true
                    else totalF x.1 != totalF x.1 then
                  true
                else diffF x.1 x.2.1 != diffF x.1 x.2.1 then
              true
            else diffF x.1 x.1 != (0 : Int))
            (Tree.leaf false)
            (Tree.br (bif (lparseF x.2.2).2 == (0 : Int) then bif !soundF (lparseF x.2.2).1 then true else !linksT (lparseF x.2.2).1 == x.2.2 else false) (Tree.leaf false)
              (Tree.br (soundF x.1)
                (Tree.need (List.length (linksT x.1) ≤ (1000 : Nat))
                  (Tree.need
                    (((bif (lparseF (linksT x.1)).2 != (0 : Int) then true else !geq (GTy.prod (GTy.int IntKind.i64) (GTy.arr (16 : Nat) (GTy.int IntKind.u32))) (lparseF (linksT x.1)).1 x.1) == false &&
                          true) =
                        true →
                      lowPre x.1.1)
                    (Tree.br
                      (bif bif (lparseF (linksT x.1)).2 != (0 : Int) then true else !geq (GTy.prod (GTy.int IntKind.i64) (GTy.arr (16 : Nat) (GTy.int IntKind.u32))) (lparseF (linksT x.1)).1 x.1 then
                        true
                      else decide (IntKind.wrap IntKind.u64 (↑(List.length (elemsF x.1.1 (16 : Nat))) : Int) > totalF x.1))
                      (Tree.leaf false) (Tree.leaf true))))
                (Tree.leaf true))))))) := by kernel_rfl
theorem creads_ok : CtrOK Tryd.prog 15 creadsC :=
  fun_ok (G := creadsG) (Λ := []) tysOK creadsG_ok mixed (by kernel_rfl) (by kernel_rfl) (by kernel_rfl) (by kernel_rfl) lp_nil fun (x : DCosts × DCosts × List UInt8) hw _ => by
    have hla : x.1.2.length = 16 := (cOK_wt hw.1).1
    show (evFn (mkC tys creadsG []) (fnOf Tryd.prog 15) (resL creadsC.args x) creadsC.res).holds (fun y => y = true)
    rw [congrFun creads_tree x]
    have g1 : geq (GTy.prod (GTy.int IntKind.i64) (GTy.arr (16 : Nat) (GTy.int IntKind.u32))) (lparseF x.2.2).1 (lparseF x.2.2).1 = true := geq_self gCosts _ rfl
    have g2 : ((lparseF x.2.2).2 != (lparseF x.2.2).2) = false := by simp
    have g3 : (leastF x.1 != leastF x.1) = false := by simp
    have g4 : (totalF x.1 != totalF x.1) = false := by simp
    have g5 : (diffF x.1 x.2.1 != diffF x.1 x.2.1) = false := by simp
    have g6 : (diffF x.1 x.1 != (0 : Int)) = false := by rw [diff_same]; rfl
    have g7 : (bif (lparseF x.2.2).2 == (0 : Int) then bif !soundF (lparseF x.2.2).1 then true else !linksT (lparseF x.2.2).1 == x.2.2 else false) = false := by
      cases hz : (lparseF x.2.2).2 == (0 : Int) with
      | false => rfl
      | true =>
        have := lparse_ok hz
        rw [this.2, this.1.1]
        simp
    rw [g1, g2, g3, g4, g5, g6, g7]
    simp only [Tree.holds]
    refine ⟨fun _ => trivial, fun h => ?_⟩
    have hlen : x.2.2.length ≤ 1000 := by have := of_decide_eq_false h; omega
    refine ⟨hlen, hlen, fun hf => (by cases hf), fun _ => ⟨fun hf => (by cases hf), fun _ => ⟨fun hs => ?_, fun _ => trivial⟩⟩⟩
    have hc : sndP x.1 := ⟨hs, hla⟩
    have hsh := links_short hc
    have hlow := sound_low hs
    have hcnt := total_sound hc
    have hel := elems_len x.1.1 16
    refine ⟨by omega, fun _ => hlow, ?_⟩
    rw [lparse_told hc (by omega)]
    have g8 : geq (GTy.prod (GTy.int IntKind.i64) (GTy.arr (16 : Nat) (GTy.int IntKind.u32))) x.1 x.1 = true := geq_self gCosts _ rfl
    simp only
    rw [g8, show IntKind.wrap IntKind.u64 ((elemsF x.1.1 16).length : Int) = ((elemsF x.1.1 16).length : Int) from u64_id (by omega) (by omega), decide_eq_false (show ¬ ((elemsF x.1.1 16).length : Int) > totalF x.1 by omega)]
    exact ⟨fun hf => (by cases hf), fun _ => trivial⟩
end Go.Ev.D
