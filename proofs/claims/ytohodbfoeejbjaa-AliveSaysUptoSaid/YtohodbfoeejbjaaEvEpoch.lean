/- Epochs and numbers in bytes, plainly. -/
import Derived.Test.YtohodbfoeejbjaaEvLoop
import Derived.Test.YtohodbfoeejbjaaEvPlain
set_option linter.unusedVariables false
namespace Go.Ev

abbrev gE : GTy := .prod (.int .u32) (.int .u32)
abbrev gPair : GTy := .prod gE gE

def newerF (a b : Int × Int) : Bool := bif a.1 != b.1 then decide (a.1 > b.1) else decide (a.2 > b.2)
def nextF (e : Int × Int) : (Int × Int) × Int := bif e.2 == 4294967295 then ((0, 0), 11) else ((e.1, e.2 + 1), 0)
def rebootF (e : Int × Int) : (Int × Int) × Int := bif e.1 == 4294967295 then ((0, 0), 11) else ((e.1 + 1, 0), 0)
def noneF (e : Int × Int) : Bool := e.1 == 0 && e.2 == 0
def swapF (p : (Int × Int) × (Int × Int)) : (Int × Int) × (Int × Int) := (p.2, p.1)
def sameF (a b : (Int × Int) × (Int × Int)) : Bool := geq gPair a (swapF b) && !(noneF a.1) && !(noneF a.2)

/-- The lowest k bytes of a number, the highest one first. -/
def numB : Nat → Nat → List UInt8
  | 0, _ => []
  | k + 1, n => numB k (n / 256) ++ [UInt8.ofNat (n % 256)]
/-- The number that bytes tell. -/
def bigN (l : List UInt8) : Nat := l.foldl (fun a b => a * 256 + b.toNat) 0

theorem numB_len : ∀ k n, (numB k n).length = k
  | 0, _ => rfl
  | k + 1, n => by simp [numB, numB_len k]
theorem bigN_snoc (l : List UInt8) (b : UInt8) : bigN (l ++ [b]) = bigN l * 256 + b.toNat := by simp [bigN]
theorem bigN_num : ∀ k n, bigN (numB k n) = n % 256 ^ k
  | 0, n => by simp [numB, bigN, Nat.mod_one]
  | k + 1, n => by
    rw [numB, bigN_snoc, bigN_num k]
    have h : (UInt8.ofNat (n % 256)).toNat = n % 256 := by simp
    rw [h, Nat.pow_succ, Nat.mul_comm (256 ^ k) 256, Nat.mod_mul]
    omega
theorem big_lt : ∀ (l : List UInt8) (a : Nat), l.foldl (fun a b => a * 256 + b.toNat) a < (a + 1) * 256 ^ l.length
  | [], a => by simp
  | b :: l, a => by
    have h := big_lt l (a * 256 + b.toNat)
    have hb := b.toNat_lt
    simp only [List.foldl_cons, List.length_cons, Nat.pow_succ]
    refine Nat.lt_of_lt_of_le h ?_
    rw [Nat.mul_comm (256 ^ l.length) 256, ← Nat.mul_assoc]
    exact Nat.mul_le_mul_right _ (by omega)
theorem bigN_lt (l : List UInt8) : bigN l < 256 ^ l.length := by
  have := big_lt l 0
  simpa [bigN] using this
/-- The number of so many bytes, and what follows; else which error. -/
def numF (n k : Int) : List UInt8 := numB (min (max k 0) 8).toNat n.toNat
def takeF (s : List UInt8) (k : Int) : Int × List UInt8 × Int :=
  bif bif decide (k < 0) then true else decide (k > 8) then (0, [], 1) else bif decide ((s.length : Int) < k) then (0, [], 2) else ((bigN (s.take k.toNat) : Int), s.drop k.toNat, 0)

theorem u8_toNat_lt (b : UInt8) : (b.toNat : Int) < 256 := by have := b.toNat_lt; omega

theorem take_step {s : List UInt8} {i : Int} (h0 : 0 ≤ i) (hi : i < s.length) (h7 : i < 8) :
    bitsOp .or .u64 (IntKind.u64.wrap ((bigN (s.take i.toNat) : Int) * 256)) (IntKind.u64.wrap ((s.getD i.toNat 0).toNat : Int)) = (bigN (s.take (i + 1).toNat) : Int) := by
  have hlt := bigN_lt (s.take i.toNat)
  have hlen : (s.take i.toNat).length = i.toNat := by rw [List.length_take]; omega
  rw [hlen] at hlt
  have hp : (256 : Nat) ^ i.toNat ≤ 256 ^ 7 := Nat.pow_le_pow_right (by omega) (by omega)
  have hb := u8_toNat_lt (s.getD i.toNat 0)
  have hn : s.take (i + 1).toNat = s.take i.toNat ++ [s.getD i.toNat 0] := by
    rw [show (i + 1).toNat = i.toNat + 1 by omega, List.take_add_one]
    simp [List.getD, show i.toNat < s.length by omega]
  generalize s.getD i.toNat 0 = b at *
  rw [hn, bigN_snoc]
  generalize bigN (s.take i.toNat) = n at *
  have h7' : (256 : Nat) ^ 7 = 72057594037927936 := by decide
  rw [u64_id (by omega) (by omega), u64_id (by omega) (by omega)]
  have hor : (n * 256) ||| b.toNat = n * 256 + b.toNat := by
    have := Nat.two_pow_add_eq_or_of_lt (i := 8) (b := b.toNat) b.toNat_lt n
    rw [show (2 : Nat) ^ 8 = 256 by decide] at this
    rw [Nat.mul_comm n 256, this]
  rw [or_nat (by omega) (by show (n : Int) * 256 < 18446744073709551616; omega) (by omega) (by show (b.toNat : Int) < 18446744073709551616; omega)]
  · rw [show ((n : Int) * 256).toNat = n * 256 by omega, show ((b.toNat : Int)).toNat = b.toNat by omega, hor]
  · rw [show ((n : Int) * 256).toNat = n * 256 by omega, show ((b.toNat : Int)).toNat = b.toNat by omega, hor, has_u64]
    omega

/-- The row that a number's bytes fill. -/
def numI (k n : Nat) : List Int := (numB k n).map fun b => (b.toNat : Int)
theorem numI_len (k n : Nat) : (numI k n).length = k := by simp [numI, numB_len]
theorem numI_succ (k n : Nat) : numI (k + 1) n = numI k (n / 256) ++ [((n % 256 : Nat) : Int)] := by simp [numI, numB]
theorem bytesToStr_map (l : List UInt8) : bytesToStr (l.map fun b => (b.toNat : Int)) = l := by
  unfold bytesToStr
  rw [List.map_map]
  have : ((fun n : Int => UInt8.ofNat n.toNat) ∘ fun b : UInt8 => (b.toNat : Int)) = id := by
    funext b
    simp
  rw [this, List.map_id]
theorem bytesToStr_numI (k n : Nat) : bytesToStr (numI k n) = numB k n := bytesToStr_map _
theorem low_byte {n : Int} (h0 : 0 ≤ n) (h1 : n < 18446744073709551616) : IntKind.u8.wrap (bitsOp .and .u64 n 255) = ((n.toNat % 256 : Nat) : Int) := by
  have hand : n.toNat &&& 255 = n.toNat % 256 := Nat.and_two_pow_sub_one_eq_mod n.toNat 8
  have e : ((255 : Int)).toNat = 255 := rfl
  rw [and_nat h0 (by show n < 18446744073709551616; exact h1) (by omega) (by show (255 : Int) < 18446744073709551616; omega)]
  · rw [e, hand, u8_id (by omega) (by omega)]
  · rw [e, hand, has_u64]; omega
theorem num_fill {n i : Int} {out : List Int} (h0 : 0 ≤ n) (h1 : n < 18446744073709551616) (hi : 0 ≤ i) (hl : i < out.length) :
    numI i.toNat (Int.fdiv n 256).toNat ++ (out.set i.toNat (IntKind.u8.wrap (bitsOp .and .u64 n 255))).drop i.toNat = numI (i + 1).toNat n.toNat ++ out.drop (i + 1).toNat := by
  rw [low_byte h0 h1, show (i + 1).toNat = i.toNat + 1 by omega, numI_succ]
  have hd : (Int.fdiv n 256).toNat = n.toNat / 256 := by
    rw [Int.fdiv_eq_ediv_of_nonneg _ (by omega)]; omega
  rw [hd, List.append_assoc, List.drop_set, if_neg (by omega), Nat.sub_self]
  congr 1
  have hlt : i.toNat < out.length := by omega
  rw [List.drop_eq_getElem_cons hlt]
  rfl

def num4 (n : Int) : List UInt8 := numB 4 n.toNat
def pairB (p : (Int × Int) × (Int × Int)) : List UInt8 := num4 p.1.1 ++ num4 p.1.2 ++ (num4 p.2.1 ++ num4 p.2.2)
def big4 (s : List UInt8) : Int := (bigN (s.take 4) : Nat)
def readF (s : List UInt8) : ((Int × Int) × (Int × Int)) × List UInt8 × Int :=
  bif decide ((s.length : Int) < 16) then (((0, 0), (0, 0)), [], 2) else (((big4 s, big4 (s.drop 4)), (big4 (s.drop 8), big4 (s.drop 12))), s.drop 16, 0)

theorem numF4 (n : Int) : numF n 4 = num4 n := rfl
theorem num4_len (n : Int) : (num4 n).length = 4 := numB_len 4 _
theorem takeF4 {s : List UInt8} (h : 4 ≤ s.length) : takeF s 4 = (big4 s, s.drop 4, 0) := by
  have h1 : decide ((s.length : Int) < 4) = false := by simp; omega
  unfold takeF
  rw [h1]
  rfl
theorem big4_lt (s : List UInt8) : 0 ≤ big4 s ∧ big4 s ≤ 4294967295 := by
  unfold big4
  have := bigN_lt (s.take 4)
  have h : (256 : Nat) ^ (s.take 4).length ≤ 256 ^ 4 := Nat.pow_le_pow_right (by omega) (by simp; omega)
  have h' : (256 : Nat) ^ 4 = 4294967296 := by decide
  omega
theorem big4_u32 (s : List UInt8) : IntKind.u32.wrap (big4 s) = big4 s := u32_id (big4_lt s).1 (big4_lt s).2
end Go.Ev
