/- This seat reads no package table. -/
import GoSem.Claims
import Derived.Below
import Derived.Laws.AppendOwn
import Derived.Laws.OwnMore
import Derived.Laws.MakeOwn
import Derived.Laws.Cells
import Derived.Laws.Rows
import Derived.Orders
import Derived.Laws.StructEq

namespace Go.Ev
def tabT : List (Nat × IntKind × List Int) := []
def tabC : List (Nat × List Value) := []
def anyC : List (Nat × (Value → Prop)) := []
theorem tab_has : ∀ p ∈ tabT, (p.1, p.2.2.map (Value.int p.2.1)) ∈ tabC ∧ ∀ z ∈ p.2.2, p.2.1.has z := nofun
end Go.Ev
/- The typed evaluator: types, abstract values, states, one operation. Plain definitions; the proof that it tells what the machine does stands in the texts behind this one. -/
namespace Go.Ev
inductive GTy where
  | bool
  | int (k : IntKind)
  | str
  | unit
  | prod (a b : GTy)
  | arr (n : Nat) (a : GTy)
  | sl (a : GTy)
  | err
  deriving Inhabited

def kindEq : (a b : IntKind) → Decidable (a = b)
  | .i8, .i8 => .isTrue rfl | .i16, .i16 => .isTrue rfl | .i32, .i32 => .isTrue rfl | .i64, .i64 => .isTrue rfl
  | .u8, .u8 => .isTrue rfl | .u16, .u16 => .isTrue rfl | .u32, .u32 => .isTrue rfl | .u64, .u64 => .isTrue rfl
  | .i8, .i16 | .i8, .i32 | .i8, .i64 | .i8, .u8 | .i8, .u16 | .i8, .u32 | .i8, .u64 => .isFalse nofun
  | .i16, .i8 | .i16, .i32 | .i16, .i64 | .i16, .u8 | .i16, .u16 | .i16, .u32 | .i16, .u64 => .isFalse nofun
  | .i32, .i8 | .i32, .i16 | .i32, .i64 | .i32, .u8 | .i32, .u16 | .i32, .u32 | .i32, .u64 => .isFalse nofun
  | .i64, .i8 | .i64, .i16 | .i64, .i32 | .i64, .u8 | .i64, .u16 | .i64, .u32 | .i64, .u64 => .isFalse nofun
  | .u8, .i8 | .u8, .i16 | .u8, .i32 | .u8, .i64 | .u8, .u16 | .u8, .u32 | .u8, .u64 => .isFalse nofun
  | .u16, .i8 | .u16, .i16 | .u16, .i32 | .u16, .i64 | .u16, .u8 | .u16, .u32 | .u16, .u64 => .isFalse nofun
  | .u32, .i8 | .u32, .i16 | .u32, .i32 | .u32, .i64 | .u32, .u8 | .u32, .u16 | .u32, .u64 => .isFalse nofun
  | .u64, .i8 | .u64, .i16 | .u64, .i32 | .u64, .i64 | .u64, .u8 | .u64, .u16 | .u64, .u32 => .isFalse nofun

def GTy.dec : (a b : GTy) → Decidable (a = b)
  | .bool, .bool => .isTrue rfl
  | .str, .str => .isTrue rfl
  | .unit, .unit => .isTrue rfl
  | .err, .err => .isTrue rfl
  | .int k, .int k' => match kindEq k k' with
    | .isTrue h => .isTrue (h ▸ rfl)
    | .isFalse h => .isFalse (fun e => h (by injection e))
  | .prod a b, .prod c d => match GTy.dec a c, GTy.dec b d with
    | .isTrue h, .isTrue h' => .isTrue (h ▸ h' ▸ rfl)
    | .isFalse h, _ => .isFalse (fun e => h (by injection e))
    | _, .isFalse h => .isFalse (fun e => h (by injection e))
  | .arr n a, .arr m b => match Nat.decEq n m, GTy.dec a b with
    | .isTrue h, .isTrue h' => .isTrue (h ▸ h' ▸ rfl)
    | .isFalse h, _ => .isFalse (fun e => h (by injection e))
    | _, .isFalse h => .isFalse (fun e => h (by injection e))
  | .sl a, .sl b => match GTy.dec a b with
    | .isTrue h => .isTrue (h ▸ rfl)
    | .isFalse h => .isFalse (fun e => h (by injection e))
  | .bool, .str | .bool, .unit | .bool, .int _ | .bool, .prod .. | .bool, .arr .. | .bool, .sl _ | .bool, .err => .isFalse nofun
  | .str, .bool | .str, .unit | .str, .int _ | .str, .prod .. | .str, .arr .. | .str, .sl _ | .str, .err => .isFalse nofun
  | .unit, .bool | .unit, .str | .unit, .int _ | .unit, .prod .. | .unit, .arr .. | .unit, .sl _ | .unit, .err => .isFalse nofun
  | .int _, .bool | .int _, .str | .int _, .unit | .int _, .prod .. | .int _, .arr .. | .int _, .sl _ | .int _, .err => .isFalse nofun
  | .prod .., .bool | .prod .., .str | .prod .., .unit | .prod .., .int _ | .prod .., .arr .. | .prod .., .sl _ | .prod .., .err => .isFalse nofun
  | .arr .., .bool | .arr .., .str | .arr .., .unit | .arr .., .int _ | .arr .., .prod .. | .arr .., .sl _ | .arr .., .err => .isFalse nofun
  | .sl _, .bool | .sl _, .str | .sl _, .unit | .sl _, .int _ | .sl _, .prod .. | .sl _, .arr .. | .sl _, .err => .isFalse nofun
  | .err, .bool | .err, .str | .err, .unit | .err, .int _ | .err, .prod .. | .err, .arr .. | .err, .sl _ => .isFalse nofun
@[reducible] def den : GTy → Type
  | .bool => Bool
  | .int _ => Int
  | .str => List UInt8
  | .unit => Unit
  | .prod a b => den a × den b
  | .arr _ a => List (den a)
  | .sl a => List (den a)
  | .err => Bool

def zero : (g : GTy) → den g
  | .bool => false
  | .int _ => (0 : Int)
  | .str => ([] : List UInt8)
  | .unit => ()
  | .prod a b => (zero a, zero b)
  | .arr n a => List.replicate n (zero a)
  | .sl _ => []
  | .err => false
def ncell : GTy → Nat
  | .bool => 1
  | .int _ => 1
  | .str => 1
  | .unit => 0
  | .prod a b => ncell a + ncell b
  | .arr n a => n * ncell a
  | .sl _ => 1
  | .err => 1

def isAgg : GTy → Bool
  | .unit => true
  | .prod .. => true
  | .arr .. => true
  | _ => false
def lbytes : GTy → Nat
  | .bool => 1
  | .int k => match k with | .i8 | .u8 => 1 | .i16 | .u16 => 2 | .i32 | .u32 => 4 | .i64 | .u64 => 8
  | .str => 16
  | .unit => 0
  | .prod a b => lbytes a + lbytes b
  | .arr n a => n * lbytes a
  | .sl _ => 24
  | .err => 16
def geq : (g : GTy) → den g → den g → Bool
  | .bool, x, y => x == y
  | .int _, x, y => (x : Int) == y
  | .str, x, y => (x : List UInt8) == y
  | .unit, _, _ => true
  | .prod a b, x, y => geq a x.1 y.1 && geq b x.2 y.2
  | .arr _ a, x, y => go (geq a) x y
  | .sl _, _, _ => false
  | .err, _, _ => false
where
  go {α : Type} (f : α → α → Bool) : List α → List α → Bool
    | x :: xs, y :: ys => f x y && go f xs ys
    | _, _ => true

def cmp : GTy → Bool
  | .sl _ => false
  | .err => false
  | .prod a b => cmp a && cmp b
  | .arr _ a => cmp a
  | _ => true

inductive PStep where
  | fst | snd | idx (i : Nat)
def pathTy : GTy → List PStep → Option GTy
  | g, [] => some g
  | .prod a _, .fst :: p => pathTy a p
  | .prod _ b, .snd :: p => pathTy b p
  | .arr _ a, .idx _ :: p => pathTy a p
  | _, _ => none

def offs : GTy → List PStep → Nat
  | .prod a _, .fst :: p => offs a p
  | .prod a b, .snd :: p => ncell a + offs b p
  | .arr _ a, .idx i :: p => i * ncell a + offs a p
  | _, _ => 0
def sub : (g : GTy) → den g → List PStep → Option ((h : GTy) × den h)
  | g, x, [] => some ⟨g, x⟩
  | .prod a _, x, .fst :: p => sub a x.1 p
  | .prod _ b, x, .snd :: p => sub b x.2 p
  | .arr _ a, x, .idx i :: p => sub a (x.getD i (zero a)) p
  | _, _, _ => none
def upd : (g : GTy) → den g → List PStep → ((h : GTy) × den h) → Option (den g)
  | g, _, [], ⟨h, v⟩ => match GTy.dec h g with
    | .isTrue e => some (e ▸ v)
    | .isFalse _ => none
  | .prod a _, x, .fst :: p, v => match upd a x.1 p v with
    | some y => some (y, x.2)
    | none => none
  | .prod _ b, x, .snd :: p, v => match upd b x.2 p v with
    | some y => some (x.1, y)
    | none => none
  | .arr _ a, x, .idx i :: p, v => match upd a (x.getD i (zero a)) p v with
    | some y => some (x.set i y)
    | none => none
  | _, _, _, _ => none
def fieldPath : (n k : Nat) → List PStep
  | 0, _ => []
  | 1, _ => [.fst]
  | 2, 0 => [.fst]
  | 2, _ => [.snd]
  | _ + 3, 0 => [.fst]
  | n + 3, k + 1 => .snd :: fieldPath (n + 2) k
inductive AV where
  | undef
  | cst (v : Value)
  | val (g : GTy) (x : den g)
  | ptr (b : Nat) (g : GTy) (p : List PStep)
  | ref (g : GTy) (x : den g)
  | tip (b : Nat)
  | tup (l : List AV)
  | clo (f : Nat) (caps : List AV)
  | nxt (c : Bool) (i r : Int)
  | win (b lo : Nat)
  deriving Inhabited

mutual
def AV.has (b : Nat) : AV → Bool
  | .ptr c .. => Nat.beq c b
  | .tip c => Nat.beq c b
  | .win c _ => Nat.beq c b
  | .tup l => AV.hasL b l
  | .clo _ l => AV.hasL b l
  | _ => false
def AV.hasL (b : Nat) : List AV → Bool
  | [] => false
  | v :: l => v.has b || AV.hasL b l
end
inductive Box where
  | var (g : GTy) (x : den g)
  | row (e : Nat) (g : GTy) (xs : List (den g)) (frozen : Bool)
  | iter (y : List UInt8) (pos : Nat)
def decL (y : List UInt8) (pos : Nat) : Nat × Nat := Utf8.decode ⟨⟨y⟩⟩ pos
def decN (y : List UInt8) (pos : Nat) : Nat := bif Nat.blt pos y.length then pos + (decL y pos).2 else pos
structure TInfo where
  g : GTy
  nf : Nat
  bytes : Nat
  el : Nat

def lk {α : Type} (k : Nat) : List (Nat × α) → Option α
  | [] => none
  | (j, v) :: l => match Nat.beq j k with
    | true => some v
    | false => lk k l

def st' {α : Type} (k : Nat) (v : α) : List (Nat × α) → List (Nat × α)
  | [] => [(k, v)]
  | (j, u) :: l => match Nat.beq j k with
    | true => (k, v) :: l
    | false => (j, u) :: st' k v l
structure St where
  tmps : List (Nat × AV)
  boxes : List (Nat × Bool × Box)

def St.look (s : St) (t : Nat) : AV := (lk t s.tmps).getD .undef
def St.box (s : St) (b : Nat) : Option Box := (lk b s.boxes).map (·.2)
def St.put (s : St) (t : Nat) (v : AV) : St := { s with tmps := st' t v s.tmps }
def maxStr : Nat := 4611686018427387904
def maxRow : Nat := 140737488355328

def inRange (k : IntKind) (n : Int) : Bool := decide (k.min ≤ n) && decide (n ≤ k.max)

def constAV : Value → AV
  | .bool b => .val .bool b
  | .int k n => match inRange k n with
    | true => .val (.int k) n
    | false => .undef
  | .string s => match Nat.ble s.data.toList.length maxStr with
    | true => .val .str s.data.toList
    | false => .undef
  | v => .cst v

def St.eval (s : St) : Operand → AV
  | .tmp t => s.look t
  | .const v => constAV v
  | .global g => match lk g tabT with
    | some (k, zs) => .ref (.arr zs.length (.int k)) zs
    | none => .undef
  | .func f => .clo f []

def boxOf : AV → Option Nat
  | .ptr b .. => some b
  | .tip b => some b
  | .win b _ => some b
  | _ => none

abbrev Arg := AV × Option Box
def St.arg (s : St) (x : Operand) : Arg :=
  let v := s.eval x
  (v, match boxOf v with | some b => s.box b | none => none)
structure Eff where
  av : AV
  wr : List (Nat × Bool × Box)
  need : Option Prop
@[reducible] def dens : List GTy → Type
  | [] => Unit
  | [g] => den g
  | g :: h :: gs => den g × dens (h :: gs)

def asVal (g : GTy) : AV → Option (den g)
  | .val h x => match GTy.dec h g with
    | .isTrue e => some (e ▸ x)
    | .isFalse _ => none
  | .cst (.slice none 0 0) => match g with
    | .sl _ => some []
    | _ => none
  | _ => none
def take (g : GTy) (a : Arg) : Option (den g × List (Nat × Bool × Box)) :=
  match a with
  | (.tip b, some (.row t h xs _)) => match GTy.dec (.sl h) g with
    | .isTrue e => some (e ▸ (show den (.sl h) from xs), [(b, false, .row t h xs true)])
    | .isFalse _ => none
  | (v, _) => match asVal g v with
    | some x => some (x, [])
    | none => none

def takes : (gs : List GTy) → List Arg → Option (dens gs × List (Nat × Bool × Box))
  | [], [] => some ((), [])
  | [g], [a] => take g a
  | g :: h :: gs, a :: aas => match take g a, takes (h :: gs) aas with
    | some (x, w), some (y, w') => some ((x, y), w ++ w')
    | _, _ => none
  | _, _ => none
structure Ctr where
  args : List GTy
  res : List GTy
  pre : Option (dens args → Prop)
  fn : dens args → dens res
structure DCtr where
  args : List GTy
  res : List GTy
  pre : dens args → Prop := fun _ => True
  die : dens args → Bool
  val : dens args → Value
  fn : dens args → dens res
def DCtr.ctr (d : DCtr) : Ctr := { args := d.args, res := d.res, pre := some fun x => d.pre x ∧ d.die x = false, fn := d.fn }

def resL : (gs : List GTy) → dens gs → List AV
  | [], _ => []
  | [g], x => [.val g x]
  | g :: h :: gs, x => .val g x.1 :: resL (h :: gs) x.2

def resAV (gs : List GTy) (x : dens gs) : AV :=
  match resL gs x with
  | [v] => v
  | l => .tup l

def bitsOp (op : BinOp) (k : IntKind) (x y : Int) : Int :=
  let a := BitVec.ofInt k.bits x
  let b := BitVec.ofInt k.bits y
  match op with
  | .and => k.wrap (a &&& b).toNat
  | .or => k.wrap (a ||| b).toNat
  | .xor => k.wrap (a ^^^ b).toNat
  | _ => k.wrap (a &&& ~~~b).toNat
def needIf (p : Prop) [d : Decidable p] (known : Bool) (k : Option Prop → Option Eff) : Option Eff :=
  match known with
  | false => k (some p)
  | true => match d with
    | .isTrue _ => k none
    | .isFalse _ => none

def isK : Operand → Bool
  | .const _ => true
  | _ => false

def v0 (v : AV) : Option Eff := some ⟨v, [], none⟩

def intBin (op : BinOp) (k : IntKind) (a b : Int) (known : Bool) : Option Eff :=
  match op with
  | .add => v0 (.val (.int k) (k.wrap (a + b)))
  | .sub => v0 (.val (.int k) (k.wrap (a - b)))
  | .mul => v0 (.val (.int k) (k.wrap (a * b)))
  | .quo => needIf (b ≠ 0) known fun p => some ⟨.val (.int k) (k.wrap (a.tdiv b)), [], p⟩
  | .rem => needIf (b ≠ 0) known fun p => some ⟨.val (.int k) (a.tmod b), [], p⟩
  | .and => v0 (.val (.int k) (bitsOp .and k a b))
  | .or => v0 (.val (.int k) (bitsOp .or k a b))
  | .xor => v0 (.val (.int k) (bitsOp .xor k a b))
  | .andNot => v0 (.val (.int k) (bitsOp .andNot k a b))
  | .eql => v0 (.val .bool (a == b))
  | .neq => v0 (.val .bool (a != b))
  | .lss => v0 (.val .bool (decide (a < b)))
  | .leq => v0 (.val .bool (decide (a ≤ b)))
  | .gtr => v0 (.val .bool (decide (a > b)))
  | .geq => v0 (.val .bool (decide (a ≥ b)))
  | _ => none

def strBin (op : BinOp) (a b : List UInt8) : Option Eff :=
  match op with
  | .add => some ⟨.val .str (a ++ b), [], some (a.length + b.length ≤ maxStr)⟩
  | .eql => v0 (.val .bool (a == b))
  | .neq => v0 (.val .bool (!(a == b)))
  | .lss => v0 (.val .bool (Op.bytesLess a b))
  | .leq => v0 (.val .bool (Op.bytesLess a b || a == b))
  | .gtr => v0 (.val .bool (!(Op.bytesLess a b || a == b)))
  | .geq => v0 (.val .bool (!(Op.bytesLess a b)))
  | _ => none

def eqBin (g : GTy) (op : BinOp) (a b : den g) : Option Eff :=
  match cmp g, op with
  | true, .eql => v0 (.val .bool (geq g a b))
  | true, .neq => v0 (.val .bool (!(geq g a b)))
  | _, _ => none

def binEff (t : Option TInfo) (op : BinOp) (known : Bool) (x y : AV) : Option Eff :=
  match op, x, y with
  | .shl, .val (.int k) a, .val (.int _) b => needIf ((0 : Int) ≤ b) known fun p => some ⟨.val (.int k) (k.wrap ((a : Int) * 2 ^ (min (b : Int).toNat k.bits))), [], p⟩
  | .shr, .val (.int k) a, .val (.int _) b => needIf ((0 : Int) ≤ b) known fun p => some ⟨.val (.int k) ((a : Int).fdiv (2 ^ (min (b : Int).toNat k.bits))), [], p⟩
  | op, .val (.int k) a, .val (.int k') b => match kindEq k k' with
    | .isTrue _ => intBin op k a b known
    | .isFalse _ => none
  | op, .val .str a, .val .str b => strBin op a b
  | op, .val .err a, .cst .nilIface => match known, t, op with
    | true, some ⟨.err, _, _, _⟩, .eql => v0 (.val .bool (!a))
    | true, some ⟨.err, _, _, _⟩, .neq => v0 (.val .bool a)
    | _, _, _ => none
  | op, .val g a, .val h b => match GTy.dec h g, t with
    | .isTrue e, some i => match GTy.dec i.g g with
      | .isTrue _ => eqBin g op a (e ▸ b)
      | .isFalse _ => none
    | _, _ => none
  | _, _, _ => none

def unEff (op : UnOp) (x : AV) : Option Eff :=
  match op, x with
  | .not, .val .bool b => v0 (.val .bool (!b))
  | .neg, .val (.int k) n => v0 (.val (.int k) (k.wrap (0 - n)))
  | .xor, .val (.int k) n => v0 (.val (.int k) (bitsOp .xor k (if k.signed then -1 else k.max) n))
  | _, _ => none

def bytesToStr (l : List Int) : List UInt8 := l.map fun n => UInt8.ofNat n.toNat
def strToBytes (s : List UInt8) : List Int := s.map fun b => (b.toNat : Int)
def encR (n : Int) : List UInt8 := (Utf8.encode n).data.toList

def convEff (src dst : GTy) (x : Arg) : Option Eff :=
  match src, dst, x with
  | _, .int k, (.val (.int _) n, _) => v0 (.val (.int k) (k.wrap n))
  | _, .str, (.val .str s, _) => v0 (.val .str s)
  | _, .str, (.val (.int _) n, _) => v0 (.val .str (encR n))
  | .sl (.int .u8), .str, (.val (.sl (.int .u8)) l, _) => v0 (.val .str (bytesToStr l))
  | .sl (.int .u8), .str, (.tip _, some (.row _ (.int .u8) l _)) => v0 (.val .str (bytesToStr l))
  | _, _, _ => none
def rowOf (a : GTy) (x : Arg) : Option (List (den a)) :=
  match x with
  | (.tip _, some (.row _ h xs _)) => match GTy.dec h a with
    | .isTrue e => some (e ▸ xs)
    | .isFalse _ => none
  | (.val (.sl h) xs, _) => match GTy.dec h a with
    | .isTrue e => some (e ▸ (show List (den h) from xs))
    | .isFalse _ => none
  | (.cst (.slice none 0 0), _) => some []
  | _ => none

def parts (g : GTy) (path : Nat → List PStep) : List (Nat × Arg) → den g → Option (den g × List (Nat × Bool × Box))
  | [], x => some (x, [])
  | (i, a) :: l, x => match pathTy g (path i) with
    | none => none
    | some h => match take h a with
      | none => none
      | some (v, w) => match upd g x (path i) ⟨h, v⟩ with
        | none => none
        | some y => match parts g path l y with
          | none => none
          | some (z, w') => some (z, w ++ w')

def ix (i n : Int) (known : Bool) (k : Option Prop → Option Eff) : Option Eff := needIf (0 ≤ i ∧ i < n) known k

abbrev Tys := Nat → Option TInfo
abbrev Ctrs := Nat → Option Ctr

def maxmin (isMax : Bool) (k : IntKind) : List Arg → Int → Option Int
  | [], acc => some acc
  | (.val (.int k') n, _) :: l, acc => match kindEq k' k with
    | .isTrue _ => maxmin isMax k l (if isMax then (if acc < n then n else acc) else (if (n : Int) < acc then n else acc))
    | .isFalse _ => none
  | _ :: _, _ => none
def piece {α : Type} (l : List α) (lo hi : Option Int) : List α × Option Prop :=
  match lo, hi with
  | none, none => (l, none)
  | some i, none => (l.drop i.toNat, some (0 ≤ i ∧ i ≤ l.length))
  | none, some j => (l.take j.toNat, some (0 ≤ j ∧ j ≤ l.length))
  | some i, some j => ((l.take j.toNat).drop i.toNat, some (0 ≤ i ∧ i ≤ j ∧ j ≤ l.length))

def both (p : Option Prop) (q : Prop) : Option Prop :=
  match p with
  | none => some q
  | some p => some (p ∧ q)

def asIntAV : AV → Option Int
  | .val (.int _) n => some n
  | _ => none
def bounds (lo hi mx : Bool) : List Arg → Option (Option Int × Option Int × Option Int)
  | l => match lo, hi, mx, l with
    | false, false, false, [] => some (none, none, none)
    | true, false, false, [(a, _)] => (asIntAV a).map fun i => (some i, none, none)
    | false, true, false, [(b, _)] => (asIntAV b).map fun j => (none, some j, none)
    | true, true, false, [(a, _), (b, _)] => match asIntAV a, asIntAV b with
      | some i, some j => some (some i, some j, none)
      | _, _ => none
    | true, true, true, [(a, _), (b, _), (c, _)] => match asIntAV a, asIntAV b, asIntAV c with
      | some i, some j, some m => some (some i, some j, some m)
      | _, _, _ => none
    | false, true, true, [(b, _), (c, _)] => match asIntAV b, asIntAV c with
      | some j, some m => some (none, some j, some m)
      | _, _ => none
    | _, _, _, _ => none

def sliceEff (t : GTy) (a : Arg) (bs : Option (Option Int × Option Int × Option Int)) : Option Eff :=
  match bs with
  | none => none
  | some (lo, hi, mx) => match a with
    | (.val .str s, _) => match t, mx with
      | .str, none => some ⟨.val .str (piece s lo hi).1, [], (piece s lo hi).2⟩
      | _, _ => none
    | (.val (.sl g) xs, _) => match GTy.dec t (.sl g), mx, hi with
      | .isTrue _, none, _ => some ⟨.val (.sl g) (piece (show List (den g) from xs) lo hi).1, [], (piece (show List (den g) from xs) lo hi).2⟩
      | .isTrue _, some m, some j => some ⟨.val (.sl g) (piece (show List (den g) from xs) lo hi).1, [], both (piece (show List (den g) from xs) lo hi).2 (j ≤ m ∧ m ≤ (show List (den g) from xs).length)⟩
      | _, _, _ => none
    | (.tip b, some (.row e g xs _)) => match GTy.dec t (.sl g), mx with
      | .isTrue _, none => some ⟨.val (.sl g) (piece xs lo hi).1, [(b, false, .row e g xs true)], (piece xs lo hi).2⟩
      | _, _ => none
    | _ => none
def winEff (t : GTy) (a : Arg) (bs : Option (Option Int × Option Int × Option Int)) : Option Eff :=
  match t, a, bs with
  | .arr m (.int .u8), (.ptr b _ [], some (.var (.arr n (.int .u8)) _)), some (lo, none, none) => match Nat.decEq m n with
    | .isTrue _ => some ⟨.win b (lo.getD 0).toNat, [], some (0 ≤ lo.getD 0 ∧ lo.getD 0 < (n : Int))⟩
    | .isFalse _ => none
  | _, _, _ => none
def winConv (src dst : GTy) (a : Arg) : Option Eff :=
  match src, dst, a with
  | .sl (.int .u8), .str, (.win _ lo, some (.var (.arr n (.int .u8)) x)) => match Nat.ble n 65536 with
    | true => v0 (.val .str (bytesToStr (List.drop (α := Int) lo x)))
    | false => none
  | _, _, _ => none
def copyEff (t : GTy) (a x : Arg) : Option Eff :=
  match t, a, x with
  | .sl (.int .u8), (.win b lo, some (.var (.arr n (.int .u8)) xs)), (.val .str s, _) =>
    some ⟨.val (.int .i64) (List.length (α := UInt8) s : Int), [(b, false, .var (.arr n (.int .u8)) (List.take (α := Int) lo xs ++ strToBytes s ++ List.drop (α := Int) (lo + List.length (α := UInt8) s) xs))], some (lo + List.length (α := UInt8) s ≤ n)⟩
  | .sl g, (.tip b, some (.row e h zs false)), x => match GTy.dec g h, rowOf h x with
    | .isTrue _, some ys => some ⟨.val (.int .i64) (List.length (α := den h) ys : Int), [(b, false, .row e h ys false)], some (ys.length = zs.length ∧ 0 < ys.length)⟩
    | _, _ => none
  | _, _, _ => none

def lenEff (t : GTy) (a : Arg) : Option Eff :=
  match t, a with
  | .str, (.val .str s, _) => v0 (.val (.int .i64) (s.length : Int))
  | .arr n _, (.val (.arr _ _) _, _) => match Nat.ble n maxRow with
    | true => v0 (.val (.int .i64) (n : Int))
    | false => none
  | .sl _, (.val (.sl _) xs, _) => v0 (.val (.int .i64) (xs.length : Int))
  | .sl _, (.tip _, some (.row _ _ xs _)) => v0 (.val (.int .i64) (xs.length : Int))
  | .sl _, (.cst (.slice none 0 0), _) => v0 (.val (.int .i64) (0 : Int))
  | _, _ => none

def loadEff (g : GTy) (a : Arg) : Option Eff :=
  match a with
  | (.ptr _ _ p, some (.var h x)) => match sub h x p with
    | some ⟨k, y⟩ => match GTy.dec k g with
      | .isTrue _ => v0 (.val k y)
      | .isFalse _ => none
    | none => none
  | (.ptr _ _ p, some (.row _ h xs _)) => match sub (.arr 0 h) xs p with
    | some ⟨k, y⟩ => match GTy.dec k g with
      | .isTrue _ => v0 (.val k y)
      | .isFalse _ => none
    | none => none
  | (.ref k y, _) => match GTy.dec k g with
    | .isTrue _ => v0 (.val k y)
    | .isFalse _ => none
  | _ => none

def storeEff (g : GTy) (a v : Arg) : Option Eff :=
  match take g v with
  | none => none
  | some (y, w) => match a with
    | (.ptr b _ p, some (.var h x)) => match upd h x p ⟨g, y⟩ with
      | some z => some ⟨.undef, w ++ [(b, false, .var h z)], none⟩
      | none => none
    | (.ptr b _ p, some (.row t h xs false)) => match upd (.arr 0 h) xs p ⟨g, y⟩, w with
      | some z, [] => some ⟨.undef, [(b, false, .row t h z false)], none⟩
      | _, _ => none
    | _ => none

def fieldOK (i : TInfo) (k : Nat) : Bool :=
  match i.g with
  | .prod .. => Nat.blt k i.nf
  | _ => false

def fieldAddrEff (i : TInfo) (k : Nat) (a : Arg) : Option Eff :=
  match fieldOK i k, a with
  | true, (.ptr b g p, some _) => match pathTy g p, pathTy i.g (fieldPath i.nf k) with
    | some h, some _ => match GTy.dec h i.g with
      | .isTrue _ => v0 (.ptr b g (p ++ fieldPath i.nf k))
      | .isFalse _ => none
    | _, _ => none
  | true, (.ref g x, _) => match GTy.dec g i.g with
    | .isTrue _ => match sub g x (fieldPath i.nf k) with
      | some ⟨h, y⟩ => v0 (.ref h y)
      | none => none
    | .isFalse _ => none
  | _, _ => none

def fieldEff (i : TInfo) (k : Nat) (a : Arg) : Option Eff :=
  match fieldOK i k, a with
  | true, (.val g x, _) => match GTy.dec g i.g with
    | .isTrue _ => match sub g x (fieldPath i.nf k) with
      | some ⟨h, y⟩ => v0 (.val h y)
      | none => none
    | .isFalse _ => none
  | _, _ => none

def indexAddrEff (t : GTy) (known : Bool) (a i : Arg) : Option Eff :=
  match asIntAV i.1 with
  | none => none
  | some i => match t, a with
    | .arr n h, (.ptr b g p, some (.var _ _)) => match pathTy g p with
      | some k => match GTy.dec k (.arr n h) with
        | .isTrue _ => ix i n known fun q => some ⟨.ptr b g (p ++ [.idx i.toNat]), [], q⟩
        | .isFalse _ => none
      | _ => none
    | .sl k, (.tip b, some (.row _ h xs _)) => match GTy.dec k h with
      | .isTrue _ => ix i xs.length false fun q => some ⟨.ptr b (.arr 0 h) [.idx i.toNat], [], q⟩
      | .isFalse _ => none
    | .sl k, (.val (.sl h) xs, _) => match GTy.dec k h with
      | .isTrue _ => ix i (show List (den h) from xs).length false fun q => some ⟨.ref h ((show List (den h) from xs).getD i.toNat (zero h)), [], q⟩
      | .isFalse _ => none
    | .arr m k, (.ref (.arr n h) xs, _) => match GTy.dec (.arr m k) (.arr n h) with
      | .isTrue _ => ix i n known fun q => some ⟨.ref h ((show List (den h) from xs).getD i.toNat (zero h)), [], q⟩
      | .isFalse _ => none
    | _, _ => none

def indexEff (t : GTy) (known : Bool) (a i : Arg) : Option Eff :=
  match asIntAV i.1 with
  | none => none
  | some i => match t, a with
    | .arr m k, (.val (.arr n h) xs, _) => match GTy.dec (.arr m k) (.arr n h) with
      | .isTrue _ => ix i n known fun q => some ⟨.val h ((show List (den h) from xs).getD i.toNat (zero h)), [], q⟩
      | .isFalse _ => none
    | .str, (.val .str s, _) => ix i (show List UInt8 from s).length false fun q => some ⟨.val (.int .u8) (((show List UInt8 from s).getD i.toNat 0).toNat : Int), [], q⟩
    | _, _ => none

def appendEff (key : Nat) (i : TInfo) (g : GTy) (a x : Arg) : Option Eff :=
  match rowOf g x with
  | none => none
  | some ys => match a with
    | (.tip b, some (.row t h xs fz)) => match Nat.decEq t i.el, GTy.dec h g with
      | .isTrue _, .isTrue q => some ⟨.tip b, [(b, true, .row i.el g ((q ▸ xs) ++ ys) fz)], some ((xs.length + ys.length) * i.bytes ≤ maxRow)⟩
      | _, _ => none
    | (.cst (.slice none 0 0), _) => some ⟨.tip key, [(key, true, .row i.el g ys false)], some (ys.length * i.bytes ≤ maxRow)⟩
    | _ => none

def pickEff (c a b : AV) : Option Eff :=
  match c, a, b with
  | .val .bool x, .val g u, .val h v => match GTy.dec h g with
    | .isTrue e => v0 (.val g (bif x then u else (e ▸ v)))
    | .isFalse _ => none
  | .val .bool x, va, vb => match x with
    | true => (match va with | .val g u => v0 (.val g u) | _ => none)
    | false => (match vb with | .val h v => v0 (.val h v) | _ => none)
  | _, _, _ => none
def partsIn (i : TInfo) (ks : List Nat) : Bool :=
  match i.g with
  | .arr n _ => ks.all fun k => Nat.blt k n
  | .prod .. => ks.all fun k => Nat.blt k i.nf
  | _ => false

def partPath (i : TInfo) (k : Nat) : List PStep :=
  match i.g with
  | .arr .. => [.idx k]
  | _ => fieldPath i.nf k
def cloB : Nat := 1000000
def mkAV (y : Int × Int) : AV := .clo y.1.toNat [.ref (.int .i64) y.2]

def opEff (τ : Tys) (Γ : Ctrs) (key : Nat) (o : Oper) (args : List Arg) : Option Eff :=
  match o.op, args with
  | .move _, [a] => v0 a.1
  | .assign _, [a] => v0 a.1
  | .pick _ _ _, [c, a, b] => pickEff c.1 a.1 b.1
  | .alloc t, [] => match τ t with
    | some i => some ⟨.ptr key i.g [], [(key, true, .var i.g (zero i.g))], none⟩
    | none => none
  | .box t _, [a] => match τ t with
    | some i => match take i.g a with
      | some (x, w) => some ⟨.ptr key i.g [], w ++ [(key, true, .var i.g x)], none⟩
      | none => none
    | none => none
  | .build t ps, args => match τ t with
    | some i => match partsIn i (ps.toList.map (·.1)), parts i.g (partPath i) ((ps.toList.map (·.1)).zip args) (zero i.g) with
      | true, some (x, w) => some ⟨.val i.g x, w, none⟩
      | _, _ => none
    | none => none
  | .buildSlice t n ps, args => match τ t with
    | some ⟨.sl g, _, b, el⟩ => match (ps.toList.map (·.1)).all (fun k => Nat.blt k n), parts (.arr n g) (fun k => [.idx k]) ((ps.toList.map (·.1)).zip args) (zero (.arr n g)) with
      | true, some (x, w) => needIf (n * ncell g ≤ 2 ^ 24 ∧ n * b ≤ maxRow) true fun q => match o.guard with
        | none => some ⟨.tip key, w ++ [(key, true, .row el g x false)], q⟩
        | some _ => some ⟨.val (.sl g) x, w, q⟩
      | _, _ => none
    | _ => none
  | .load t _, [a] => match τ t with
    | some i => loadEff i.g a
    | none => none
  | .store t _ _, [a, v] => match τ t with
    | some i => storeEff i.g a v
    | none => none
  | .nilCheck _, [a] => match a.1 with
    | .ptr .. | .ref .. | .clo .. => v0 a.1
    | _ => none
  | .makeInterface t _, [a] => match τ t, a.1 with
    | some ⟨.str, _, _, _⟩, .val .str y => v0 (.cst (.iface t (.string ⟨⟨y⟩⟩)))
    | some ⟨.int k, _, _, _⟩, .val (.int k') n => match kindEq k k' with
      | .isTrue _ => v0 (.cst (.iface t (.int k' n)))
      | .isFalse _ => none
    | _, _ => none
  | .binOp op t _ y _, [a, b] => binEff (τ t) op (isK y) a.1 b.1
  | .unOp op _ _, [a] => unEff op a.1
  | .convert s d _, [a] => match τ s, τ d with
    | some j, some i => match winConv j.g i.g a with
      | some e => some e
      | none => convEff j.g i.g a
    | _, _ => none
  | .slice t _ lo hi mx, a :: l => match τ t with
    | some i => match winEff i.g a (bounds lo.isSome hi.isSome mx.isSome l) with
      | some e => some e
      | none => sliceEff i.g a (bounds lo.isSome hi.isSome mx.isSome l)
    | none => none
  | .fieldAddr t _ k, [a] => match τ t with
    | some i => fieldAddrEff i k a
    | none => none
  | .field t _ k, [a] => match τ t with
    | some i => fieldEff i k a
    | none => none
  | .indexAddr t _ i, [a, b] => match τ t with
    | some j => indexAddrEff j.g (isK i) a b
    | none => none
  | .index t _ i, [a, b] => match τ t with
    | some j => indexEff j.g (isK i) a b
    | none => none
  | .extract _ i, [a] => match a.1 with
    | .tup l => match l[i]? with
      | some v => v0 v
      | none => none
    | .nxt c p r => match i with
      | 0 => v0 (.val .bool c)
      | 1 => some ⟨.val (.int .i64) p, [], some (c = true)⟩
      | 2 => some ⟨.val (.int .i32) r, [], some (c = true)⟩
      | _ => none
    | _ => none
  | .range t _, [a] => match τ t, a.1 with
    | some ⟨.str, _, _, _⟩, .val .str y => some ⟨.ptr key .unit [], [(key, true, .iter y 0)], none⟩
    | _, _ => none
  | .next _ true, [a] => match a with
    | (.ptr b _ _, some (.iter y pos)) => some ⟨.nxt (Nat.blt pos (List.length (α := UInt8) y)) (pos : Int) ((decL y pos).1 : Int), [(b, false, .iter y (decN y pos))], none⟩
    | _ => none
  | .makeFunc (.func f) first _, args => match first.toList with
    | [] => v0 (.clo f (args.map (·.1)))
    | _ :: _ => none
  | .makeSlice t _ _, [a, b] => match τ t, asIntAV a.1, asIntAV b.1 with
    | some ⟨.sl g, _, bytes, el⟩, some n, some c => some ⟨.tip key, [(key, true, .row el g (List.replicate n.toNat (zero g)) false)], some (0 ≤ n ∧ n ≤ c ∧ c * bytes ≤ maxRow)⟩
    | _, _, _ => none
  | .call { callee := .builtin bi, argTypes, .. }, args => match bi, args with
    | .len, [a] => match argTypes.toList with
      | [t] => match τ t with
        | some i => lenEff i.g a
        | none => none
      | _ => none
    | .copy, [a, x] => match argTypes.toList with
      | [t, _] => match τ t with
        | some i => copyEff i.g a x
        | none => none
      | _ => none
    | .max, (.val (.int k) n, _) :: l => match maxmin true k l n with
      | some m => v0 (.val (.int k) m)
      | none => none
    | .min, (.val (.int k) n, _) :: l => match maxmin false k l n with
      | some m => v0 (.val (.int k) m)
      | none => none
    | .append, [a, x] => match argTypes.toList with
      | [t, u] => match Nat.decEq t u, τ t with
        | .isTrue _, some ⟨.sl g, nf, b, el⟩ => appendEff key ⟨.sl g, nf, b, el⟩ g a x
        | _, _ => none
      | _ => none
    | _, _ => none
  | .call { callee := .value (.func f), .. }, _ :: args => match Nat.blt f cloB, Γ f with
    | true, some c => match takes c.args args with
      | some (x, w) => some ⟨resAV c.res (c.fn x), w, c.pre.map (· x)⟩
      | none => none
    | false, some _ => none
    | _, none => match Γ (cloB + cloB + f) with
      | some ⟨gs, [.int .i64, .int .i64], pre, fn⟩ => match takes gs args with
        | some (x, w) => some ⟨mkAV (fn x), w, pre.map (· x)⟩
        | none => none
      | _ => none
  | .call { callee := .value (.tmp _), .. }, (.clo f [.ref (.int .i64) y], _) :: args => match Nat.blt f cloB, Γ (cloB + f) with
    | true, some c => match takes c.args (args ++ [(.val (.int .i64) y, none)]) with
      | some (x, w) => some ⟨resAV c.res (c.fn x), w, c.pre.map (· x)⟩
      | none => none
    | _, _ => none
  | _, _ => none

/-! ### States -/

def kill (b : Nat) (l : List (Nat × AV)) : List (Nat × AV) :=
  l.map fun (t, v) => (t, match v.has b with | true => .undef | false => v)

def St.wr1 (s : St) (x : Nat × Bool × Box) : St :=
  match x.2.1, s.box x.1 with
  | true, some _ => { tmps := kill x.1 s.tmps, boxes := st' x.1 (true, x.2.2) s.boxes }
  | _, _ => { s with boxes := st' x.1 (true, x.2.2) s.boxes }

def St.wrs (s : St) : List (Nat × Bool × Box) → St
  | [] => s
  | x :: l => (s.wr1 x).wrs l

def St.putO (s : St) (d : Option Nat) (v : AV) : St :=
  match d with
  | some d => s.put d v
  | none => s
def St.after (s : St) (o : Oper) (e : Eff) : St := (s.wrs e.wr).putO o.dst e.av

inductive Tree (α : Type) where
  | leaf (a : α)
  | br (c : Bool) (t e : Tree α)
  | need (p : Prop) (t : Tree α)
  | stuck

namespace Tree
def bind {α β : Type} : Tree α → (α → Tree β) → Tree β
  | .leaf a, k => k a
  | .br c t e, k => .br c (t.bind k) (e.bind k)
  | .need p t, k => .need p (t.bind k)
  | .stuck, _ => .stuck

def needO {α : Type} (p : Option Prop) (t : Tree α) : Tree α :=
  match p with
  | none => t
  | some p => .need p t
def holds {α : Type} (Q : α → Prop) : Tree α → Prop
  | .leaf a => Q a
  | .br c t e => (c = true → holds Q t) ∧ (c = false → holds Q e)
  | .need p t => p ∧ holds Q t
  | .stuck => False
def single {α : Type} : Tree α → Option (List Prop × α)
  | .leaf a => some ([], a)
  | .need p t => match single t with
    | some (ps, a) => some (p :: ps, a)
    | none => none
  | _ => none

def needs {α : Type} (c : Bool) : List Prop → Tree α → Tree α
  | [], t => t
  | p :: ps, t => .need (c = true → p) (needs c ps t)
end Tree

inductive Ex where
  | normal
  | exit (id : Nat)
  | ret
  | die (v : Value)

structure LoopSpec where
  prom : List (Nat × Nat × Nat × GTy)
  keep : List Nat
  boxes : List Nat
  sum : St → Tree (Ex × St)

structure Ctx where
  τ : Tys
  Γ : Ctrs
  Λ : Nat → Option LoopSpec
  dec : Bool := false
  Δ : Nat → Option DCtr := fun _ => none

/-! ### Guards -/
def chain (ops : List Oper) : Nat → Oper → List (Nat × Bool)
  | 0, _ => []
  | n + 1, o => match o.guard with
    | none => []
    | some (j, w) => match ops[j]? with
      | some oj => match oj.dst with
        | some d => (d, w) :: chain ops n oj
        | none => []
      | none => []

def gcond (s : St) : List (Nat × Bool) → Bool
  | [] => true
  | (d, w) :: l => match s.look d with
    | .val .bool x => (x == w) && gcond s l
    | _ => gcond s l

def gneed (s : St) (ch : List (Nat × Bool)) (p : Option Prop) : Option Prop :=
  match p with
  | none => none
  | some p => match ch with
    | [] => some p
    | _ :: _ => some (gcond s ch = true → p)

def memP (x : Nat × Bool) : List (Nat × Bool) → Bool
  | [] => false
  | y :: l => (Nat.beq x.1 y.1 && (x.2 == y.2)) || memP x l

def subP : List (Nat × Bool) → List (Nat × Bool) → Bool
  | [], _ => true
  | x :: l, m => memP x m && subP l m

def memN (x : Nat) : List Nat → Bool
  | [] => false
  | y :: l => Nat.beq x y || memN x l

def tmpOf : Operand → List Nat
  | .tmp t => [t]
  | _ => []

def tmpsOf (l : List Operand) : List Nat := l.flatMap tmpOf

def dstIs (t : Nat) (o : Oper) : Bool :=
  match o.dst with
  | some d => Nat.beq d t
  | none => false
def seen (ops : List Oper) (n : Nat) (ch : List (Nat × Bool)) (t : Nat) : Bool :=
  match ops.find? (dstIs t) with
  | none => true
  | some m => subP (chain ops n m) ch

def guardOK (ops : List Oper) (n : Nat) (o : Oper) : Bool :=
  let ch := chain ops n o
  match o.op with
  | .pick c a b =>
    (tmpOf c).all (seen ops n ch) &&
    (match c with
      | .tmp s => (tmpOf a).all (seen ops n ((s, true) :: ch)) && (tmpOf b).all (seen ops n ((s, false) :: ch))
      | _ => (tmpOf a).all (seen ops n ch) && (tmpOf b).all (seen ops n ch))
  | op => (tmpsOf op.operands.toList).all (seen ops n ch)

def dsts (ops : List Oper) : List Nat := ops.filterMap (·.dst)

def nodupN : List Nat → Bool
  | [] => true
  | x :: l => !(memN x l) && nodupN l
def guardsOK (ops : List Oper) : Bool :=
  nodupN (dsts ops) && ops.all (guardOK ops ops.length) &&
      ops.zipIdx.all fun (o, i) => match o.guard with
        | none => true
        | some (j, _) => Nat.blt j i && (match ops[j]? with | some oj => oj.dst.isSome | none => false)
def guarded (ops : List Oper) : List Nat := (ops.filter (·.guard.isSome)).filterMap (·.dst)

def St.drop (s : St) (l : List Nat) : St :=
  match l with
  | [] => s
  | _ => { s with tmps := s.tmps.filter fun (t, _) => !(memN t l) }

/-! ### Code -/

def St.args (s : St) (o : Oper) : List Arg := o.op.operands.toList.map s.arg
def runOps (C : Ctx) : List Oper → St → Tree St
  | [], s => .leaf s
  | o :: l, s => match opEff C.τ C.Γ (o.dst.getD 0) o (s.args o) with
    | none => .stuck
    | some e => .needO e.need (runOps C l (s.after o e))
def effs (C : Ctx) : List Oper → St → Option (List (St × Eff) × St)
  | [], s => some ([], s)
  | o :: l, s => match opEff C.τ C.Γ (o.dst.getD 0) o (s.args o) with
    | none => none
    | some e => match effs C l (s.after o e) with
      | none => none
      | some (r, s') => some ((s, e) :: r, s')
structure Foot where
  rt : List Nat
  wt : Option Nat
  rb : List Nat
  wb : List Nat

def guardSlot (all : List Oper) (o : Oper) : List Nat :=
  match o.guard with
  | none => []
  | some (j, _) => match all[j]? with
    | some oj => oj.dst.toList
    | none => []

def foot (all : List Oper) (o : Oper) (s : St) (e : Eff) : Foot :=
  { rt := tmpsOf o.op.operands.toList ++ guardSlot all o, wt := o.dst, rb := (s.args o).filterMap fun a => boxOf a.1, wb := e.wr.map (·.1) }

def feet (all : List Oper) : List Oper → List (St × Eff) → List Foot
  | o :: l, x :: r => foot all o x.1 x.2 :: feet all l r
  | _, _ => []

def disj (a b : Foot) : Bool :=
  (match a.wt with | some d => !(memN d b.rt) && (match b.wt with | some d' => !(Nat.beq d d') | none => true) | none => true) &&
  (match b.wt with | some d => !(memN d a.rt) | none => true) &&
  a.wb.all (fun x => !(memN x b.rb) && !(memN x b.wb)) && b.wb.all (fun x => !(memN x a.rb))
def thruOK (F : List Foot) (o : Oper) (j : Nat) (g : Foot) : Bool := o.after.toList.any fun e => Region.binds .any e && Nat.blt j e.on && (match F[e.on]? with
  | some h => !(disj g h)
  | none => false)
def orderOK (F : List Foot) : List Oper → List Foot → List (Nat × Foot) → Nat → Bool
  | o :: l, f :: fs, before, i => before.all (fun (j, g) => (o.after.toList.any fun e => Nat.beq e.on j && Region.binds .any e) || disj g f || thruOK F o j g) &&
      (o.after.toList.all fun e => !(Region.binds .any e) || Nat.blt e.on i) && orderOK F l fs ((i, f) :: before) (i + 1)
  | _, _, _, _ => true
def freshWr : List (Nat × Bool × Box) → List (Nat × Bool × Box) → Bool
  | [], _ => true
  | x :: l, bs => (!x.2.1 || (lk x.1 bs).isNone) && freshWr l (st' x.1 (true, x.2.2) bs)
def effsOK : List Oper → List (St × Eff) → Bool
  | o :: l, x :: r => freshWr x.2.wr x.1.boxes && (o.guard.isNone || x.2.wr.isEmpty) && effsOK l r
  | _, _ => true
def effsNeed (all : List Oper) : List Oper → List (St × Eff) → Tree St → Tree St
  | o :: l, x :: r, t => .needO (gneed x.1 (chain all all.length o) x.2.need) (effsNeed all l r t)
  | _, _, t => t
def runDraw (C : Ctx) (ops : List Oper) (draw : Bool) (s : St) : Tree St :=
  match guardsOK ops with
  | false => .stuck
  | true => match effs C ops s with
    | none => .stuck
    | some (r, s') => match effsOK ops r && (!draw || orderOK (feet ops ops r) ops (feet ops ops r) [] 0) with
      | true => effsNeed ops ops r (.leaf (s'.drop (guarded ops)))
      | false => .stuck

def boolAV : AV → Option Bool
  | .val .bool x => some x
  | _ => none
def isSkip : AV → Bool
  | .cst (.tuple a) => a.isEmpty
  | _ => false
def pickT {α : Type} (dec x : Bool) (a b : Tree α) : Tree α :=
  match dec with
  | false => .br x a b
  | true => match x with
    | true => a
    | false => b
def runBr (C : Ctx) (all : List Oper) : List Oper → St → Tree St
  | [], s => .leaf s
  | o :: l, s => match o.guard with
    | none => match opEff C.τ C.Γ (o.dst.getD 0) o (s.args o) with
      | none => .stuck
      | some e => .needO e.need (runBr C all l (s.after o e))
    | some (j, w) => match (all[j]?).bind (·.dst) with
      | none => .stuck
      | some d => match boolAV (s.look d), isSkip (s.look d) with
        | some x, _ => pickT C.dec (x == w)
            (match opEff C.τ C.Γ (o.dst.getD 0) o ((s.put d (.val .bool w)).args o) with
              | none => .stuck
              | some e => .needO e.need (runBr C all l ((s.put d (.val .bool w)).after o e)))
            (runBr C all l ((s.put d (.val .bool (!w))).putO o.dst (.cst (.tuple #[]))))
        | none, true => runBr C all l (s.putO o.dst (.cst (.tuple #[])))
        | none, false => .stuck

def orElse {α : Type} : Tree α → Tree α → Tree α
  | .stuck, t => t
  | t, _ => t

/-! Regions in which an operation may panic -/
def dieOf (C : Ctx) (o : Oper) (args : List Arg) : Option (Prop × Bool × Value) :=
  match o.op, args with
  | .call { callee := .value (.func f), .. }, _ :: args => match C.Δ f with
    | some d => match takes d.args args with
      | some (x, _) => some (d.pre x, d.die x, d.val x)
      | none => none
    | none => none
  | _, _ => none

def isDie (C : Ctx) (o : Oper) : Bool :=
  match o.op with
  | .panic _ => true
  | .call { callee := .value (.func f), .. } => (C.Δ f).isSome
  | _ => false

def contD (C : Ctx) (k : St → Tree (Ex × St)) (o : Oper) (s : St) : Tree (Ex × St) :=
  match opEff C.τ C.Γ (o.dst.getD 0) o (s.args o) with
  | none => .stuck
  | some e => .needO e.need (k (s.after o e))
def runOpsD (C : Ctx) : List Oper → St → Tree (Ex × St)
  | [], s => .leaf (.normal, s)
  | o :: l, s => match o.op with
    | .panic x => match s.eval x with
      | .cst (.iface t u) => .leaf (.die (.iface t u), s)
      | _ => .stuck
    | _ => match dieOf C o (s.args o) with
      | none => contD C (runOpsD C l) o s
      | some (q, b, v) => .need q (.br b (.leaf (.die v, s)) (contD C (runOpsD C l) o s))
def dieL (C : Ctx) : List Oper → List (St × Eff) → List (Bool × Value)
  | o :: l, x :: r => match dieOf C o (x.1.args o) with
    | some p => p.2 :: dieL C l r
    | none => dieL C l r
  | _, _ => []
def needD {α : Type} (v : Value) : List (Bool × Value) → Tree α → Tree α
  | [], t => t
  | p :: l, t => .need (p.1 = true → p.2 = v) (needD v l t)
def dieT (t : Tree (Ex × St)) : List (Bool × Value) → Tree (Ex × St)
  | [] => t
  | p :: l => .br p.1 (needD p.2 l (.leaf (.die p.2, { tmps := [], boxes := [] }))) (dieT t l)
def dieOK (C : Ctx) : List Oper → List (St × Eff) → Bool
  | o :: l, x :: r => (match dieOf C o (x.1.args o) with | some _ => o.guard.isNone | none => true) && dieOK C l r
  | _, _ => true
def effsNeedD (C : Ctx) (all : List Oper) : List Oper → List (St × Eff) → Tree (Ex × St) → Tree (Ex × St)
  | o :: l, x :: r, t => match dieOf C o (x.1.args o) with
    | some p => .need p.1 (effsNeedD C all l r t)
    | none => .needO (gneed x.1 (chain all all.length o) x.2.need) (effsNeedD C all l r t)
  | _, _, t => t
def runDrawD (C : Ctx) (ops : List Oper) (s : St) : Tree (Ex × St) :=
  match guardsOK ops with
  | false => .stuck
  | true => match effs C ops s with
    | none => .stuck
    | some (r, s') => match effsOK ops r && orderOK (feet ops ops r) ops (feet ops ops r) [] 0 && dieOK C ops r with
      | false => .stuck
      | true => effsNeedD C ops ops r (dieT (.leaf (.normal, s'.drop (guarded ops))) (dieL C ops r))

def regD (C : Ctx) (ops : List Oper) (draw : Bool) (s : St) : Tree (Ex × St) :=
  match draw with
  | true => runDrawD C ops s
  | false => match ops.any (·.guard.isSome) with
    | true => .stuck
    | false => runOpsD C ops s

/-! Forks -/

def mergeAV (x : Bool) (u v : AV) : AV :=
  match u, v with
  | .val g a, .val h b => match GTy.dec h g with
    | .isTrue e => .val g (bif x then a else e ▸ b)
    | .isFalse _ => .undef
  | .tip b, .tip c => match Nat.beq b c with
    | true => .tip b
    | false => .undef
  | .ptr b g [], .ptr c h [] => match Nat.beq b c, GTy.dec h g with
    | true, .isTrue _ => .ptr b g []
    | _, _ => .undef
  | .val (.sl g) a, .cst w => match asVal (.sl g) (.cst w) with
    | some b => .val (.sl g) (bif x then a else b)
    | none => .undef
  | .cst w, .val (.sl g) b => match asVal (.sl g) (.cst w) with
    | some a => .val (.sl g) (bif x then a else b)
    | none => .undef
  | _, _ => .undef

def mergeBox (x : Bool) : Box → Box → Option Box
  | .var g a, .var h b => match GTy.dec h g with
    | .isTrue e => some (.var g (bif x then a else e ▸ b))
    | .isFalse _ => none
  | .row t g a f, .row u h b f' => match Nat.decEq u t, GTy.dec h g with
    | .isTrue _, .isTrue e => some (.row t g (bif x then a else e ▸ b) (f || f'))
    | _, _ => none
  | _, _ => none
def mergeBoxes (x : Bool) (s m : List (Nat × Bool × Box)) : List (Nat × Bool × Box) → Option (List (Nat × Bool × Box))
  | [] => some []
  | (b, d, B) :: l => match lk b m with
    | none => mergeBoxes x s m l
    | some (d', B') => match (d || d') with
      | false => match lk b s, mergeBoxes x s m l with
        | some (_, Z), some r => some ((b, false, Z) :: r)
        | _, _ => none
      | true => match mergeBox x B B', mergeBoxes x s m l with
        | some Z, some r => some ((b, true, Z) :: r)
        | _, _ => none

def isUndef : AV → Bool
  | .undef => true
  | _ => false
def live (bs : List (Nat × Bool × Box)) : AV → Bool
  | .ptr b .. => (lk b bs).isSome
  | .tip b => (lk b bs).isSome
  | .win b _ => (lk b bs).isSome
  | .val .. | .cst _ => true
  | .nxt .. => true
  | .ref .. => true
  | _ => false
def mergeTmps (bs : List (Nat × Bool × Box)) (W : List Nat) (a b : St) : List (Nat × AV) → List (Nat × AV)
  | [] => []
  | (t, v) :: l => (t, match memN t W || isUndef (a.look t) || isUndef (b.look t) || !(live bs v) with | true => AV.undef | false => v) :: mergeTmps bs W a b l

def newTmps (x : Bool) (bs : List (Nat × Bool × Box)) (a b : St) : List Nat → List (Nat × AV)
  | [] => []
  | t :: l => (t, match mergeAV x (a.look t) (b.look t) with | v => (match live bs v with | true => v | false => .undef)) :: newTmps x bs a b l

def mergeSt (x : Bool) (W : List Nat) (s a b : St) : Option St :=
  match mergeBoxes x s.boxes b.boxes a.boxes with
  | none => none
  | some bs => some { tmps := newTmps x bs a b W ++ mergeTmps bs W a b s.tmps, boxes := bs }

def St.clean (s : St) : St := { s with boxes := s.boxes.map fun (b, _, B) => (b, false, B) }
def St.remark (s old : St) : St := { s with boxes := s.boxes.map fun (b, d, B) => (b, d || (match lk b old.boxes with | some (d', _) => d' | none => true), B) }

def dedupN : List Nat → List Nat
  | [] => []
  | x :: l => match memN x l with
    | true => dedupN l
    | false => x :: dedupN l
def writes : Code → List Nat
  | .region _ ops _ => dsts ops.toList
  | .seq a b => writes a ++ writes b
  | .cond _ a b => writes a ++ writes b
  | .block _ c => writes c
  | .loop c => writes c
  | .scope c => writes c
  | _ => []

def fork (x : Bool) (W : List Nat) (s : St) (a b : Tree (Ex × St)) : Tree (Ex × St) :=
  match a.single, b.single with
  | some (ps, .normal, sa), some (qs, .normal, sb) => match mergeSt x W s sa sb with
    | some m => .needs x ps (.needs (!x) qs (.leaf (.normal, m)))
    | none => .br x a b
  | _, _ => .br x a b

def remarkT (old : St) (t : Tree (Ex × St)) : Tree (Ex × St) := t.bind fun (e, s) => .leaf (e, s.remark old)

/-! Loops -/

def promote (s : St) : List (Nat × Nat × Nat × GTy) → Option St
  | [] => some s
  | (t, k, e, g) :: l => match Nat.beq k 0, s.look t with
    | true, .cst (.slice none 0 0) => promote { tmps := st' t (.val (.sl g) ([] : List (den g))) s.tmps, boxes := s.boxes } l
    | true, .val (.sl _) _ => promote s l
    | false, .cst (.slice none 0 0) => match s.box k, Nat.blt 0 (ncell g) with
      | none, true => promote { tmps := st' t (.tip k) s.tmps, boxes := st' k (true, .row e g [] false) s.boxes } l
      | _, _ => none
    | false, .tip _ => promote s l
    | _, _ => none

def keepT (l : List Nat) (s : St) : List (Nat × AV) := l.map fun t => (t, s.look t)
def keepB (l : List Nat) (s : List (Nat × Bool × Box)) : Option (List (Nat × Bool × Box)) :=
  match l with
  | [] => some []
  | b :: l => match lk b s, keepB l s with
    | some (_, B), some r => some ((b, false, B) :: r)
    | _, _ => none
def restrict (L : LoopSpec) (s : St) : Option St :=
  match keepB L.boxes s.boxes with
  | none => none
  | some bs => match (keepT L.keep s).all fun (_, v) => (isUndef v || live bs v) with
    | true => some { tmps := keepT L.keep s, boxes := bs }
    | false => none

def iter (L : LoopSpec) (f : St → Tree (Ex × St)) : Nat → St → Tree (Ex × St)
  | 0, _ => .stuck
  | n + 1, s => (f s).bind fun (e, s') => match restrict L s' with
    | none => .stuck
    | some s'' => match e with
      | .normal => iter L f n s''
      | e => .leaf (e, s'')
def rejoin (L : LoopSpec) (W : List Nat) (s s1 : St) : St :=
  let out := s.boxes.filter fun (b, _) => !(memN b L.boxes)
  { tmps := s1.tmps ++ s.tmps.map (fun (t, v) => (t, match !(memN t W) && !(memN t L.keep) && live out v with | true => v | false => .undef)),
    boxes := s1.boxes.map (fun (b, _, B) => (b, true, B)) ++ out }

def leaves (id : Nat) : Ex → Ex
  | .exit j => match Nat.beq j id with
    | true => .normal
    | false => .exit j
  | e => e

def ev (C : Ctx) : Code → St → Tree (Ex × St)
  | .skip, s => .leaf (.normal, s)
  | .region _ ops draw, s => match ops.toList.any (isDie C) with
    | true => regD C ops.toList draw s
    | false => match draw || ops.toList.any (·.guard.isSome) with
      | false => (runOps C ops.toList s).bind fun s' => .leaf (.normal, s')
      | true => (match draw with
          | true => runDraw C ops.toList true s
          | false => orElse (runDraw C ops.toList false s) (runBr C ops.toList ops.toList s)).bind fun s' => .leaf (.normal, s')
  | .seq a b, s => (ev C a s).bind fun (e, s') => match e with
    | .normal => ev C b s'
    | e => .leaf (e, s')
  | .cond c a b, s => match s.eval c with
    | .val .bool x => remarkT s (match C.dec with
        | true => pickT true x (ev C a s.clean) (ev C b s.clean)
        | false => fork x (dedupN (writes a ++ writes b)) s.clean (ev C a s.clean) (ev C b s.clean))
    | _ => .stuck
  | .block id (.loop body), s => match C.Λ id with
    | none => .stuck
    | some L => match promote s L.prom with
      | none => .stuck
      | some s0 => match restrict L s0, L.prom.all fun p => memN p.1 (writes body) with
        | none, _ => .stuck
        | some _, false => .stuck
        | some s1, true => (L.sum s1).bind fun (e, s2) => .leaf (leaves id e, rejoin L (writes body) s0 s2)
  | .block id c, s => (ev C c s).bind fun (e, s') => .leaf (leaves id e, s')
  | .scope c, s => ev C c s
  | .label _, s => .leaf (.normal, s)
  | .exit id, s => .leaf (.exit id, s)
  | .ret, s => .leaf (.ret, s)
  | _, _ => .stuck

/-! Functions -/

def resArg (C : Ctx) (s : St) : ResultVar → Option Arg
  | .tmp t => some (s.arg (.tmp t))
  | .cell a t => match C.τ t with
    | some i => match loadEff i.g (s.arg (.tmp a)) with
      | some e => some (e.av, none)
      | none => none
    | none => none

def resArgs (C : Ctx) (s : St) : List ResultVar → Option (List Arg)
  | [] => some []
  | r :: l => match resArg C s r, resArgs C s l with
    | some a, some aas => some (a :: aas)
    | _, _ => none

def number {α : Type} : Nat → List α → List (Nat × α)
  | _, [] => []
  | n, v :: l => (n, v) :: number (n + 1) l

def evRes (C : Ctx) (fn : Func) (res : List GTy) : Ex × St → Tree (dens res)
  | (.exit _, _) => .stuck
  | (.die _, _) => .stuck
  | (_, s') => match resArgs C s' fn.results.toList with
      | none => .stuck
      | some aas => match takes res aas with
        | none => .stuck
        | some (x, _) => .leaf x
def evFn (C : Ctx) (fn : Func) (args : List AV) (res : List GTy) : Tree (dens res) :=
  match fn.body with
  | none => .stuck
  | some body => match (writes body).all (fun t => Nat.blt t fn.ntmps) with
    | false => .stuck
    | true => (ev C body { tmps := number 0 args, boxes := [] }).bind (evRes C fn res)

def evResD (C : Ctx) (fn : Func) (res : List GTy) : Ex × St → Tree (Sum Value (dens res))
  | (.die v, _) => .leaf (.inl v)
  | p => (evRes C fn res p).bind fun x => .leaf (.inr x)
def evFnD (C : Ctx) (fn : Func) (args : List AV) (res : List GTy) : Tree (Sum Value (dens res)) :=
  match fn.body with
  | none => .stuck
  | some body => match (writes body).all (fun t => Nat.blt t fn.ntmps) with
    | false => .stuck
    | true => (ev C body { tmps := number 0 args, boxes := [] }).bind (evResD C fn res)
end Go.Ev
/- How a typed value lies in memory. -/
namespace Go.Ev

abbrev Stab := Nat → Nat → Prop

def encL {α : Type} (f : α → List Value → Prop) : List α → List Value → Prop
  | [], cs => cs = []
  | x :: xs, cs => ∃ c d, cs = c ++ d ∧ f x c ∧ encL f xs d

def Enc (w : World) (S : Stab) : (g : GTy) → den g → List Value → Prop
  | .bool, b, cs => cs = [.bool b]
  | .int k, n, cs => cs = [.int k n] ∧ k.has n
  | .str, s, cs => cs = [.string ⟨⟨s⟩⟩] ∧ List.length (α := UInt8) s ≤ maxStr
  | .unit, _, cs => cs = []
  | .prod a b, x, cs => ∃ c d, cs = c ++ d ∧ Enc w S a x.1 c ∧ Enc w S b x.2 d
  | .arr n a, xs, cs => List.length (α := den a) xs = n ∧ encL (Enc w S a) xs cs
  | .sl a, xs, cs => ∃ ad cap, cs = [.slice ad (List.length (α := den a) xs) cap] ∧ List.length (α := den a) xs ≤ cap ∧ List.length (α := den a) xs * lbytes a ≤ maxRow ∧ List.length (α := den a) xs ≤ maxRow ∧
      ((xs : List (den a)) = [] ∨ ∃ blk off ds, ad = some ⟨blk, off, none⟩ ∧ encL (Enc w S a) xs ds ∧ ∀ j v, ds[j]? = some v → w.cell? ⟨blk, off + j, none⟩ = some v ∧ S blk (off + j))
  | .err, b, cs => (b = false ∧ cs = [.nilIface]) ∨ (b = true ∧ ∃ t v, cs = [.iface t v])

def toVal (g : GTy) (cs : List Value) : Value :=
  match isAgg g with
  | true => .agg cs.toArray
  | false => cs.headD undef
def Keeps (S S' : Stab) (w w' : World) : Prop := ∀ b o, S b o → S' b o ∧ w'.cell? ⟨b, o, none⟩ = w.cell? ⟨b, o, none⟩

theorem Keeps.refl (S : Stab) (w : World) : Keeps S S w w := fun _ _ h => ⟨h, rfl⟩
theorem Keeps.trans {S S' S'' : Stab} {w w' w'' : World} (h : Keeps S S' w w') (k : Keeps S' S'' w' w'') : Keeps S S'' w w'' :=
  fun b o hs => ⟨(k b o (h b o hs).1).1, ((k b o (h b o hs).1).2).trans (h b o hs).2⟩

theorem encL_mono {α : Type} {f f' : α → List Value → Prop} (h : ∀ x c, f x c → f' x c) : ∀ {xs : List α} {cs : List Value}, encL f xs cs → encL f' xs cs
  | [], _, e => e
  | _ :: _, _, ⟨c, d, e, a, b⟩ => ⟨c, d, e, h _ _ a, encL_mono h b⟩

theorem Enc.keeps {S S' : Stab} {w w' : World} (h : Keeps S S' w w') : ∀ {g : GTy} {x : den g} {cs : List Value}, Enc w S g x cs → Enc w' S' g x cs
  | .bool, _, _, e => e
  | .err, _, _, e => e
  | .int _, _, _, e => e
  | .str, _, _, e => e
  | .unit, _, _, e => e
  | .prod _ _, _, _, ⟨c, d, e, a, b⟩ => ⟨c, d, e, Enc.keeps h a, Enc.keeps h b⟩
  | .arr _ _, _, _, ⟨e, a⟩ => ⟨e, encL_mono (fun _ _ => Enc.keeps h) a⟩
  | .sl _, _, _, ⟨ad, cap, e, h1, h2, h3, h4⟩ => ⟨ad, cap, e, h1, h2, h3, h4.imp id fun ⟨blk, off, ds, e1, e2, e3⟩ =>
      ⟨blk, off, ds, e1, encL_mono (fun _ _ => Enc.keeps h) e2, fun j v hv => ⟨((h _ _ (e3 j v hv).2).2).trans (e3 j v hv).1, (h _ _ (e3 j v hv).2).1⟩⟩⟩

theorem encL_len {α : Type} {f : α → List Value → Prop} {n : Nat} (h : ∀ x c, f x c → c.length = n) : ∀ {xs : List α} {cs : List Value}, encL f xs cs → cs.length = xs.length * n
  | [], _, e => by simp [show _ = _ from e]
  | x :: xs, _, ⟨c, d, e, a, b⟩ => by
    rw [e, List.length_append, h _ _ a, encL_len h b, List.length_cons, Nat.add_mul, Nat.one_mul, Nat.add_comm]

theorem Enc.len {w : World} {S : Stab} : ∀ {g : GTy} {x : den g} {cs : List Value}, Enc w S g x cs → cs.length = ncell g
  | .err, _, _, e => by rcases e with ⟨_, rfl⟩ | ⟨_, t, v, rfl⟩ <;> rfl
  | .bool, _, _, e => by rw [show _ = _ from e]; rfl
  | .int _, _, _, e => by rw [e.1]; rfl
  | .str, _, _, e => by rw [e.1]; rfl
  | .unit, _, _, e => by rw [show _ = _ from e]; rfl
  | .prod _ _, _, _, ⟨c, d, e, a, b⟩ => by rw [e, List.length_append, Enc.len a, Enc.len b]; rfl
  | .arr n a, xs, _, ⟨e, h⟩ => by rw [encL_len (fun _ _ => Enc.len) h, e]; rfl
  | .sl _, _, _, ⟨_, _, e, _⟩ => by rw [e]; rfl

theorem encL_one {α : Type} {f : α → List Value → Prop} {p : Value → Prop} (h : ∀ x c, f x c → ∀ v ∈ c, p v) : ∀ {xs : List α} {cs : List Value}, encL f xs cs → ∀ v ∈ cs, p v
  | [], _, e, v, hv => by rw [show _ = _ from e] at hv; cases hv
  | _ :: _, _, ⟨c, d, e, a, b⟩, v, hv => by
    rw [e, List.mem_append] at hv
    exact hv.elim (h _ _ a v) (encL_one h b v)

theorem Enc.one {w : World} {S : Stab} : ∀ {g : GTy} {x : den g} {cs : List Value}, Enc w S g x cs → ∀ v ∈ cs, v.oneCell' = true
  | .err, _, _, e, v, hv => by
    rcases e with ⟨_, rfl⟩ | ⟨_, t, u, rfl⟩ <;> simp at hv <;> rw [hv] <;> rfl
  | .bool, _, _, e, v, hv => by rw [show _ = _ from e] at hv; simp at hv; rw [hv]; rfl
  | .int _, _, _, e, v, hv => by rw [e.1] at hv; simp at hv; rw [hv]; rfl
  | .str, _, _, e, v, hv => by rw [e.1] at hv; simp at hv; rw [hv]; rfl
  | .unit, _, _, e, v, hv => by rw [show _ = _ from e] at hv; cases hv
  | .prod _ _, _, _, ⟨c, d, e, a, b⟩, v, hv => by
    rw [e, List.mem_append] at hv
    exact hv.elim (Enc.one a v) (Enc.one b v)
  | .arr _ _, _, _, ⟨_, h⟩, v, hv => encL_one (fun _ _ => Enc.one) h v hv
  | .sl _, _, _, ⟨_, _, e, _⟩, v, hv => by rw [e] at hv; simp at hv; rw [hv]; rfl
theorem toVal_cells {w : World} {S : Stab} {g : GTy} {x : den g} {cs : List Value} (h : Enc w S g x cs) : (toVal g cs).cells.toList = cs := by
  unfold toVal
  cases hg : isAgg g with
  | true => simp [Value.cells]
  | false =>
    have hl := h.len
    have h1 : cs.length = 1 := by cases g <;> simp [isAgg] at hg <;> simpa [ncell] using hl
    match cs, h1 with
    | [c], _ =>
      have := h.one c (by simp)
      simp only [List.headD_cons]
      cases c <;> simp_all [Value.cells, Value.oneCell']
theorem encL_get {α : Type} {f : α → List Value → Prop} {n : Nat} (hn : ∀ x c, f x c → c.length = n) : ∀ {xs : List α} {cs : List Value} (i : Nat) (x : α), encL f xs cs → xs[i]? = some x →
    ∃ a c b, cs = a ++ c ++ b ∧ a.length = i * n ∧ f x c
  | y :: xs, _, 0, x, ⟨c, d, e, a, b⟩, hx => by
    simp at hx
    subst hx
    exact ⟨[], c, d, by simpa using e, by simp, a⟩
  | y :: xs, _, i + 1, x, ⟨c, d, e, a, b⟩, hx => by
    obtain ⟨p, q, r, h1, h2, h3⟩ := encL_get hn i x b (by simpa using hx)
    refine ⟨c ++ p, q, r, by rw [e, h1]; simp, ?_, h3⟩
    rw [List.length_append, h2, hn _ _ a, Nat.add_mul, Nat.one_mul, Nat.add_comm]
  | [], _, _, _, _, hx => by cases hx

theorem encL_set {α : Type} {f : α → List Value → Prop} {n : Nat} (hn : ∀ x c, f x c → c.length = n) : ∀ {xs : List α} {cs a c b : List Value} (i : Nat) (y : α) (d : List Value), encL f xs cs → i < xs.length →
    cs = a ++ c ++ b → a.length = i * n → c.length = n → f y d → encL f (xs.set i y) (a ++ d ++ b)
  | x :: xs, cs, a, c, b, 0, y, d, ⟨p, q, e, hp, hq⟩, _, he, ha, hc, hy => by
    have ha0 : a = [] := List.eq_nil_of_length_eq_zero (by simpa using ha)
    subst ha0
    simp only [List.nil_append] at he
    rw [e] at he
    have hpc := List.append_inj he (by rw [hn _ _ hp, hc])
    refine ⟨d, b, by simp, hy, ?_⟩
    rw [← hpc.2]; exact hq
  | x :: xs, cs, a, c, b, i + 1, y, d, ⟨p, q, e, hp, hq⟩, hi, he, ha, hc, hy => by
    have hlen : p.length ≤ a.length := by rw [hn _ _ hp, ha, Nat.add_mul, Nat.one_mul]; omega
    rw [e, List.append_assoc] at he
    have hpre : p = a.take p.length := by
      have := congrArg (List.take p.length) he
      rwa [List.take_left' rfl, List.take_append_of_le_length hlen] at this
    have hq' : q = a.drop p.length ++ c ++ b := by
      have := congrArg (List.drop p.length) he
      rw [List.drop_left' rfl, List.drop_append_of_le_length hlen] at this
      rw [this, List.append_assoc]
    refine ⟨p, a.drop p.length ++ d ++ b, ?_, hp, encL_set hn i y d hq (by simpa using hi) hq' ?_ hc hy⟩
    · conv => lhs; rw [show a = p ++ a.drop p.length from by conv => lhs; rw [← List.take_append_drop p.length a, ← hpre]]
      simp
    · rw [List.length_drop, ha, hn _ _ hp, Nat.add_mul, Nat.one_mul]; omega
  | [], _, _, _, _, _, _, _, _, hi, _, _, _, _ => by cases hi
def inB : GTy → List PStep → Prop
  | _, [] => True
  | .prod a _, .fst :: p => inB a p
  | .prod _ b, .snd :: p => inB b p
  | .arr n a, .idx i :: p => i < n ∧ inB a p
  | _, _ => False

theorem getD_some {α : Type} (xs : List α) (i : Nat) (d : α) (h : i < xs.length) : xs[i]? = some (xs.getD i d) := by
  simp [List.getD, h]
theorem Enc.sub {w : World} {S : Stab} : ∀ {g : GTy} {x : den g} {cs : List Value} (p : List PStep) {h : GTy} {y : den h}, Enc w S g x cs → Ev.sub g x p = some ⟨h, y⟩ → inB g p →
    ∃ a c b, cs = a ++ c ++ b ∧ a.length = offs g p ∧ Enc w S h y c
  | g, x, cs, [], h, y, e, hs, _ => by
    simp only [Ev.sub, Option.some.injEq, Sigma.mk.injEq] at hs
    obtain ⟨rfl, hy⟩ := hs
    cases eq_of_heq hy
    exact ⟨[], cs, [], by simp, by cases g <;> rfl, e⟩
  | .prod a b, x, cs, .fst :: p, h, y, ⟨c, d, e, e1, e2⟩, hs, hb => by
    obtain ⟨p1, p2, p3, h1, h2, h3⟩ := Enc.sub p e1 (by simpa [Ev.sub] using hs) (by simpa [inB] using hb)
    exact ⟨p1, p2, p3 ++ d, by rw [e, h1]; simp, by rw [h2]; rfl, h3⟩
  | .prod a b, x, cs, .snd :: p, h, y, ⟨c, d, e, e1, e2⟩, hs, hb => by
    obtain ⟨p1, p2, p3, h1, h2, h3⟩ := Enc.sub p e2 (by simpa [Ev.sub] using hs) (by simpa [inB] using hb)
    exact ⟨c ++ p1, p2, p3, by rw [e, h1]; simp, by rw [List.length_append, h2, e1.len]; rfl, h3⟩
  | .arr n a, x, cs, .idx i :: p, h, y, ⟨e, e1⟩, hs, hb => by
    simp only [inB] at hb
    have hg := getD_some (α := den a) x i (zero a) (by rw [e]; exact hb.1)
    obtain ⟨q1, q2, q3, h1, h2, h3⟩ := encL_get (fun _ _ => Enc.len) i _ e1 hg
    obtain ⟨p1, p2, p3, k1, k2, k3⟩ := Enc.sub p h3 (by simpa [Ev.sub] using hs) hb.2
    exact ⟨q1 ++ p1, p2, p3 ++ q3, by rw [h1, k1]; simp, by rw [List.length_append, h2, k2]; rfl, k3⟩
  | .prod _ _, _, _, .idx _ :: _, _, _, _, hs, _ => by simp [Ev.sub] at hs
  | .arr _ _, _, _, .fst :: _, _, _, _, hs, _ => by simp [Ev.sub] at hs
  | .arr _ _, _, _, .snd :: _, _, _, _, hs, _ => by simp [Ev.sub] at hs
  | .bool, _, _, _ :: _, _, _, _, hs, _ => by simp [Ev.sub] at hs
  | .err, _, _, _ :: _, _, _, _, hs, _ => by simp [Ev.sub] at hs
  | .int _, _, _, _ :: _, _, _, _, hs, _ => by simp [Ev.sub] at hs
  | .str, _, _, _ :: _, _, _, _, hs, _ => by simp [Ev.sub] at hs
  | .unit, _, _, _ :: _, _, _, _, hs, _ => by simp [Ev.sub] at hs
  | .sl _, _, _, _ :: _, _, _, _, hs, _ => by simp [Ev.sub] at hs
theorem Enc.upd {w : World} {S : Stab} : ∀ {g : GTy} {x : den g} {cs : List Value} (p : List PStep) {h : GTy} {v : den h} {z : den g} {d : List Value}, Enc w S g x cs → Ev.upd g x p ⟨h, v⟩ = some z → inB g p → Enc w S h v d →
    ∃ a c b, cs = a ++ c ++ b ∧ a.length = offs g p ∧ c.length = ncell h ∧ Enc w S g z (a ++ d ++ b)
  | g, x, cs, [], h, v, z, d, e, hs, _, hv => by
    simp only [Ev.upd] at hs
    split at hs
    · rename_i hg _
      subst hg
      simp only [Option.some.injEq] at hs
      subst hs
      exact ⟨[], cs, [], by simp, by cases h <;> rfl, e.len, by simpa using hv⟩
    · cases hs
  | .prod a b, x, cs, .fst :: p, h, v, z, d, ⟨c1, c2, e, e1, e2⟩, hs, hb, hv => by
    simp only [Ev.upd] at hs
    split at hs
    · rename_i y hy
      simp only [Option.some.injEq] at hs
      subst hs
      obtain ⟨p1, p2, p3, h1, h2, h3, h4⟩ := Enc.upd p e1 hy (by simpa [inB] using hb) hv
      exact ⟨p1, p2, p3 ++ c2, by rw [e, h1]; simp, by rw [h2]; rfl, h3, p1 ++ d ++ p3, c2, by simp, h4, e2⟩
    · cases hs
  | .prod a b, x, cs, .snd :: p, h, v, z, d, ⟨c1, c2, e, e1, e2⟩, hs, hb, hv => by
    simp only [Ev.upd] at hs
    split at hs
    · rename_i y hy
      simp only [Option.some.injEq] at hs
      subst hs
      obtain ⟨p1, p2, p3, h1, h2, h3, h4⟩ := Enc.upd p e2 hy (by simpa [inB] using hb) hv
      exact ⟨c1 ++ p1, p2, p3, by rw [e, h1]; simp, by rw [List.length_append, h2, e1.len]; rfl, h3, c1, p1 ++ d ++ p3, by simp, e1, h4⟩
    · cases hs
  | .arr n a, x, cs, .idx i :: p, h, v, z, d, ⟨e, e1⟩, hs, hb, hv => by
    simp only [Ev.upd] at hs
    simp only [inB] at hb
    split at hs
    · rename_i y hy
      simp only [Option.some.injEq] at hs
      subst hs
      have hi : i < List.length (α := den a) x := by rw [e]; exact hb.1
      have hg := getD_some (α := den a) x i (zero a) hi
      obtain ⟨q1, q2, q3, h1, h2, h3⟩ := encL_get (fun _ _ => Enc.len) i _ e1 hg
      obtain ⟨p1, p2, p3, k1, k2, k3, k4⟩ := Enc.upd p h3 hy hb.2 hv
      refine ⟨q1 ++ p1, p2, p3 ++ q3, by rw [h1, k1]; simp, by rw [List.length_append, h2, k2]; rfl, k3, ?_, ?_⟩
      · show List.length (List.set _ _ _) = n
        rw [List.length_set]; exact e
      · have := encL_set (fun _ _ => Enc.len) i y (p1 ++ d ++ p3) e1 hi h1 h2 h3.len k4
        simpa using this
    · cases hs
  | .prod _ _, _, _, .idx _ :: _, _, _, _, _, _, hs, _, _ => by simp [Ev.upd] at hs
  | .arr _ _, _, _, .fst :: _, _, _, _, _, _, hs, _, _ => by simp [Ev.upd] at hs
  | .arr _ _, _, _, .snd :: _, _, _, _, _, _, hs, _, _ => by simp [Ev.upd] at hs
  | .bool, _, _, _ :: _, _, _, _, _, _, hs, _, _ => by simp [Ev.upd] at hs
  | .err, _, _, _ :: _, _, _, _, _, _, hs, _, _ => by simp [Ev.upd] at hs
  | .int _, _, _, _ :: _, _, _, _, _, _, hs, _, _ => by simp [Ev.upd] at hs
  | .str, _, _, _ :: _, _, _, _, _, _, hs, _, _ => by simp [Ev.upd] at hs
  | .unit, _, _, _ :: _, _, _, _, _, _, hs, _, _ => by simp [Ev.upd] at hs
  | .sl _, _, _, _ :: _, _, _, _, _, _, hs, _, _ => by simp [Ev.upd] at hs

/-! Paths -/

theorem pathTy_sub : ∀ {g : GTy} {x : den g} {p : List PStep} {h : GTy} {y : den h}, Ev.sub g x p = some ⟨h, y⟩ → pathTy g p = some h
  | g, x, [], h, y, hs => by
    simp only [Ev.sub, Option.some.injEq, Sigma.mk.injEq] at hs
    cases g <;> simp [pathTy, hs.1]
  | .prod a b, x, .fst :: p, h, y, hs => by simp only [pathTy]; exact pathTy_sub (g := a) (x := x.1) (by simpa [Ev.sub] using hs)
  | .prod a b, x, .snd :: p, h, y, hs => by simp only [pathTy]; exact pathTy_sub (g := b) (x := x.2) (by simpa [Ev.sub] using hs)
  | .arr n a, x, .idx i :: p, h, y, hs => by simp only [pathTy]; exact pathTy_sub (g := a) (x := List.getD x i (zero a)) (by simpa [Ev.sub] using hs)
  | .prod _ _, _, .idx _ :: _, _, _, hs => by simp [Ev.sub] at hs
  | .arr _ _, _, .fst :: _, _, _, hs => by simp [Ev.sub] at hs
  | .arr _ _, _, .snd :: _, _, _, hs => by simp [Ev.sub] at hs
  | .bool, _, _ :: _, _, _, hs => by simp [Ev.sub] at hs
  | .err, _, _ :: _, _, _, hs => by simp [Ev.sub] at hs
  | .int _, _, _ :: _, _, _, hs => by simp [Ev.sub] at hs
  | .str, _, _ :: _, _, _, hs => by simp [Ev.sub] at hs
  | .unit, _, _ :: _, _, _, hs => by simp [Ev.sub] at hs
  | .sl _, _, _ :: _, _, _, hs => by simp [Ev.sub] at hs

theorem inB_append : ∀ {g h : GTy} {p q : List PStep}, pathTy g p = some h → inB g p → inB h q → inB g (p ++ q)
  | g, h, [], q, hp, _, hq => by
    have : g = h := by cases g <;> simpa [pathTy] using hp
    subst this; simpa using hq
  | .prod a b, h, .fst :: p, q, hp, h1, hq => by simp only [List.cons_append, inB]; exact inB_append (g := a) (by simpa [pathTy] using hp) (by simpa [inB] using h1) hq
  | .prod a b, h, .snd :: p, q, hp, h1, hq => by simp only [List.cons_append, inB]; exact inB_append (g := b) (by simpa [pathTy] using hp) (by simpa [inB] using h1) hq
  | .arr n a, h, .idx i :: p, q, hp, h1, hq => by
    simp only [List.cons_append, inB] at h1 ⊢
    exact ⟨h1.1, inB_append (g := a) (by simpa [pathTy] using hp) h1.2 hq⟩
  | .prod _ _, _, .idx _ :: _, _, hp, _, _ => by simp [pathTy] at hp
  | .arr _ _, _, .fst :: _, _, hp, _, _ => by simp [pathTy] at hp
  | .arr _ _, _, .snd :: _, _, hp, _, _ => by simp [pathTy] at hp
  | .bool, _, _ :: _, _, hp, _, _ => by simp [pathTy] at hp
  | .err, _, _ :: _, _, hp, _, _ => by simp [pathTy] at hp
  | .int _, _, _ :: _, _, hp, _, _ => by simp [pathTy] at hp
  | .str, _, _ :: _, _, hp, _, _ => by simp [pathTy] at hp
  | .unit, _, _ :: _, _, hp, _, _ => by simp [pathTy] at hp
  | .sl _, _, _ :: _, _, hp, _, _ => by simp [pathTy] at hp

theorem offs_append : ∀ {g h : GTy} {p q : List PStep}, pathTy g p = some h → offs g (p ++ q) = offs g p + offs h q
  | g, h, [], q, hp => by
    have : g = h := by cases g <;> simpa [pathTy] using hp
    subst this
    have : offs g [] = 0 := by cases g <;> rfl
    simp [this]
  | .prod a b, h, .fst :: p, q, hp => by simp only [List.cons_append, offs]; exact offs_append (g := a) (by simpa [pathTy] using hp)
  | .prod a b, h, .snd :: p, q, hp => by simp only [List.cons_append, offs]; rw [offs_append (g := b) (h := h) (by simpa [pathTy] using hp)]; omega
  | .arr n a, h, .idx i :: p, q, hp => by simp only [List.cons_append, offs]; rw [offs_append (g := a) (h := h) (by simpa [pathTy] using hp)]; omega
  | .prod _ _, _, .idx _ :: _, _, hp => by simp [pathTy] at hp
  | .arr _ _, _, .fst :: _, _, hp => by simp [pathTy] at hp
  | .arr _ _, _, .snd :: _, _, hp => by simp [pathTy] at hp
  | .bool, _, _ :: _, _, hp => by simp [pathTy] at hp
  | .err, _, _ :: _, _, hp => by simp [pathTy] at hp
  | .int _, _, _ :: _, _, hp => by simp [pathTy] at hp
  | .str, _, _ :: _, _, hp => by simp [pathTy] at hp
  | .unit, _, _ :: _, _, hp => by simp [pathTy] at hp
  | .sl _, _, _ :: _, _, hp => by simp [pathTy] at hp
end Go.Ev
/- The table of types, held against the program's. -/
namespace Go.Ev

def zeroCells : GTy → List Value
  | .bool => [.bool false]
  | .int k => [.int k 0]
  | .str => [.string ⟨#[]⟩]
  | .unit => []
  | .prod a b => zeroCells a ++ zeroCells b
  | .arr n a => (List.replicate n (zeroCells a)).flatten
  | .sl _ => [.slice none 0 0]
  | .err => [.nilIface]

theorem encL_replicate {α : Type} {f : α → List Value → Prop} {x : α} {c : List Value} (h : f x c) : ∀ n, encL f (List.replicate n x) (List.replicate n c).flatten
  | 0 => rfl
  | n + 1 => ⟨c, (List.replicate n c).flatten, by simp [List.replicate_succ], h, encL_replicate h n⟩

theorem has_zero (k : IntKind) : k.has 0 := by cases k <;> exact ⟨by decide, by decide⟩

theorem Enc.zero (w : World) (S : Stab) : ∀ g : GTy, Enc w S g (Ev.zero g) (zeroCells g)
  | .bool => rfl
  | .int k => ⟨rfl, has_zero k⟩
  | .str => ⟨rfl, Nat.zero_le _⟩
  | .unit => rfl
  | .prod a b => ⟨_, _, rfl, Enc.zero w S a, Enc.zero w S b⟩
  | .arr n a => ⟨List.length_replicate, encL_replicate (Enc.zero w S a) n⟩
  | .sl _ => ⟨none, 0, rfl, Nat.le_refl _, by simp [Ev.zero], Nat.zero_le _, .inl rfl⟩
  | .err => .inl ⟨rfl, rfl⟩
def Chain : Nat → GTy → Prop
  | 1, .prod _ .unit => True
  | 2, .prod _ _ => True
  | n + 3, .prod _ b => Chain (n + 2) b
  | _, _ => False

def chainB : Nat → GTy → Bool
  | 1, .prod _ .unit => true
  | 2, .prod _ _ => true
  | n + 3, .prod _ b => chainB (n + 2) b
  | _, _ => false

theorem chain_of : ∀ {n : Nat} {g : GTy}, chainB n g = true → Chain n g
  | 1, .prod _ .unit, _ => trivial
  | 2, .prod _ _, _ => trivial
  | n + 3, .prod _ b, h => by simp only [Chain]; exact chain_of (by simpa [chainB] using h)
  | 0, g, h => by cases g <;> simp [chainB] at h
  | 1, .bool, h | 1, .int _, h | 1, .str, h | 1, .unit, h | 1, .arr .., h | 1, .sl _, h | 1, .err, h => by simp [chainB] at h
  | 1, .prod _ (.bool), h | 1, .prod _ (.int _), h | 1, .prod _ (.str), h | 1, .prod _ (.prod ..), h | 1, .prod _ (.arr ..), h | 1, .prod _ (.sl _), h | 1, .prod _ (.err), h => by simp [chainB] at h
  | 2, .bool, h | 2, .int _, h | 2, .str, h | 2, .unit, h | 2, .arr .., h | 2, .sl _, h | 2, .err, h => by simp [chainB] at h
  | _ + 3, .bool, h | _ + 3, .int _, h | _ + 3, .str, h | _ + 3, .unit, h | _ + 3, .arr .., h | _ + 3, .sl _, h | _ + 3, .err, h => by simp [chainB] at h

def GTy.sz : GTy → Nat
  | .prod a b => a.sz + b.sz + 1
  | .arr _ a => a.sz + 1
  | .sl a => a.sz + 1
  | _ => 1
structure TyOK (P : Program) (τ : Tys) (t : TypeId) (i : TInfo) : Prop where
  plain : i.g = .err ∨ P.eqGuardType P.depth t = false
  small : i.g.sz ≤ 9999 ∧ lbytes i.g ≤ 1048576
  info : ∃ ti, P.info? t = some ti ∧ ti.size = ncell i.g ∧ ti.zero = some (toVal i.g (zeroCells i.g))
  agg : (match P.underlying t with | some (.struct _) | some (.array ..) => true | _ => false) = isAgg i.g
  desc : match i.g with
    | .bool => P.underlying t = some .bool
    | .int k => P.underlying t = some (.int k)
    | .str => P.underlying t = some .string
    | .arr n a => ∃ e j, P.underlying t = some (.array n e) ∧ τ e = some j ∧ j.g = a
    | .sl a => ∃ e j ti, P.underlying t = some (.slice e) ∧ e = i.el ∧ τ e = some j ∧ j.g = a ∧ P.info? e = some ti ∧ ti.bytes = i.bytes ∧ lbytes a ≤ ti.bytes ∧ 0 < lbytes a ∧ 0 < ncell a
    | .unit => False
    | .err => ∃ ms, P.underlying t = some (.interface ms)
    | .prod .. => ∃ fs, P.underlying t = some (.struct fs) ∧ fs.size = i.nf ∧ Chain i.nf i.g ∧ P.stoodInHeld t = false ∧ ∀ (k : Nat) (f : Field), fs[k]? = some f → f.name ≠ "_" ∧ f.offset = offs i.g (fieldPath i.nf k) ∧ inB i.g (fieldPath i.nf k) ∧ ∃ j, τ f.type = some j ∧ pathTy i.g (fieldPath i.nf k) = some j.g ∧ 0 < ncell j.g

def TysOK (P : Program) (τ : Tys) : Prop := ∀ t i, τ t = some i → TyOK P τ t i

/-! The check, for the kernel -/

def bytesEq (a b : ByteArray) : Bool := a.data.toList == b.data.toList

mutual
def veq : Value → Value → Bool
  | .bool a, .bool b => a == b
  | .int k a, .int l b => (match kindEq k l with | .isTrue _ => true | .isFalse _ => false) && decide (a = b)
  | .string a, .string b => bytesEq a b
  | .slice none a b, .slice none c d => Nat.beq a c && Nat.beq b d
  | .agg a, .agg b => veqA a b
  | .nilIface, .nilIface => true
  | _, _ => false
def veqA : Array Value → Array Value → Bool
  | ⟨a⟩, ⟨b⟩ => veqL a b
def veqL : List Value → List Value → Bool
  | [], [] => true
  | a :: l, b :: m => veq a b && veqL l m
  | _, _ => false
end

mutual
theorem veq_eq : ∀ a b : Value, veq a b = true → a = b
  | .bool a, .bool b, h => by simp [veq] at h; rw [h]
  | .int k a, .int l b, h => by
    simp only [veq, Bool.and_eq_true, decide_eq_true_eq] at h
    obtain ⟨h1, rfl⟩ := h
    split at h1
    · rename_i e _; rw [e]
    · cases h1
  | .string ⟨⟨a⟩⟩, .string ⟨⟨b⟩⟩, h => by simp [veq, bytesEq] at h; rw [h]
  | .slice none a b, .slice none c d, h => by simp [veq] at h; rw [h.1, h.2]
  | .agg a, .agg b, h => by rw [veqA_eq a b (by simpa [veq] using h)]
  | .nilIface, b, h => by cases b <;> first | rfl | (simp [veq] at h; done)
  | .bool _, .int .., h | .bool _, .float .., h | .bool _, .complex .., h | .bool _, .string _, h | .bool _, .pointer _, h | .bool _, .slice .., h | .bool _, .map _, h | .bool _, .chan _, h | .bool _, .func .., h | .bool _, .nilFunc, h | .bool _, .iface .., h | .bool _, .nilIface, h | .bool _, .agg _, h | .bool _, .tuple _, h => by simp [veq] at h
  | .int .., .bool _, h | .int .., .float .., h | .int .., .complex .., h | .int .., .string _, h | .int .., .pointer _, h | .int .., .slice .., h | .int .., .map _, h | .int .., .chan _, h | .int .., .func .., h | .int .., .nilFunc, h | .int .., .iface .., h | .int .., .nilIface, h | .int .., .agg _, h | .int .., .tuple _, h => by simp [veq] at h
  | .string _, .bool _, h | .string _, .int .., h | .string _, .float .., h | .string _, .complex .., h | .string _, .pointer _, h | .string _, .slice .., h | .string _, .map _, h | .string _, .chan _, h | .string _, .func .., h | .string _, .nilFunc, h | .string _, .iface .., h | .string _, .nilIface, h | .string _, .agg _, h | .string _, .tuple _, h => by simp [veq] at h
  | .slice (some _) _ _, b, h => by cases b <;> simp [veq] at h
  | .slice none _ _, .slice (some _) _ _, h => by simp [veq] at h
  | .slice none _ _, .bool _, h | .slice none _ _, .int .., h | .slice none _ _, .float .., h | .slice none _ _, .complex .., h | .slice none _ _, .string _, h | .slice none _ _, .pointer _, h | .slice none _ _, .map _, h | .slice none _ _, .chan _, h | .slice none _ _, .func .., h | .slice none _ _, .nilFunc, h | .slice none _ _, .iface .., h | .slice none _ _, .nilIface, h | .slice none _ _, .agg _, h | .slice none _ _, .tuple _, h => by simp [veq] at h
  | .agg _, .bool _, h | .agg _, .int .., h | .agg _, .float .., h | .agg _, .complex .., h | .agg _, .string _, h | .agg _, .pointer _, h | .agg _, .slice .., h | .agg _, .map _, h | .agg _, .chan _, h | .agg _, .func .., h | .agg _, .nilFunc, h | .agg _, .iface .., h | .agg _, .nilIface, h | .agg _, .tuple _, h => by simp [veq] at h
  | .float .., b, h | .complex .., b, h | .pointer _, b, h | .map _, b, h | .chan _, b, h | .func .., b, h | .nilFunc, b, h | .iface .., b, h | .tuple _, b, h => by cases b <;> simp [veq] at h
theorem veqA_eq : ∀ a b : Array Value, veqA a b = true → a = b
  | ⟨a⟩, ⟨b⟩, h => by rw [veqL_eq a b (by simpa [veqA] using h)]
theorem veqL_eq : ∀ a b : List Value, veqL a b = true → a = b
  | [], [], _ => rfl
  | a :: l, b :: m, h => by
    simp only [veqL, Bool.and_eq_true] at h
    rw [veq_eq a b h.1, veqL_eq l m h.2]
  | [], _ :: _, h => by simp [veqL] at h
  | _ :: _, [], h => by simp [veqL] at h
end

def gEq (a b : GTy) : Bool := match GTy.dec a b with | .isTrue _ => true | .isFalse _ => false
theorem gEq_eq {a b : GTy} (h : gEq a b = true) : a = b := by
  unfold gEq at h
  split at h
  · assumption
  · cases h

def inBb : GTy → List PStep → Bool
  | _, [] => true
  | .prod a _, .fst :: p => inBb a p
  | .prod _ b, .snd :: p => inBb b p
  | .arr n a, .idx i :: p => Nat.blt i n && inBb a p
  | _, _ => false

theorem inBb_inB : ∀ {g : GTy} {p : List PStep}, inBb g p = true → inB g p
  | g, [], _ => by cases g <;> trivial
  | .prod a _, .fst :: p, h => by simp only [inB]; exact inBb_inB (by simpa [inBb] using h)
  | .prod _ b, .snd :: p, h => by simp only [inB]; exact inBb_inB (by simpa [inBb] using h)
  | .arr n a, .idx i :: p, h => by
    simp only [inBb, Bool.and_eq_true] at h
    simp only [inB]
    exact ⟨by simpa [Nat.blt_eq] using h.1, inBb_inB h.2⟩
  | .prod _ _, .idx _ :: _, h | .arr _ _, .fst :: _, h | .arr _ _, .snd :: _, h | .bool, _ :: _, h | .int _, _ :: _, h | .str, _ :: _, h | .unit, _ :: _, h | .sl _, _ :: _, h | .err, _ :: _, h => by simp [inBb] at h

def fieldChk (τ : Tys) (i : TInfo) (k : Nat) (f : Field) : Bool :=
  !(f.name == "_") && Nat.beq f.offset (offs i.g (fieldPath i.nf k)) && inBb i.g (fieldPath i.nf k) &&
  match τ f.type, pathTy i.g (fieldPath i.nf k) with
  | some j, some h => gEq h j.g && Nat.blt 0 (ncell j.g)
  | _, _ => false

def fieldsChk (τ : Tys) (i : TInfo) : Nat → List Field → Bool
  | _, [] => true
  | k, f :: l => fieldChk τ i k f && fieldsChk τ i (k + 1) l

def tyChk (P : Program) (τ : Tys) (t : TypeId) (i : TInfo) : Bool :=
  (gEq i.g .err || !(P.eqGuardType P.depth t)) && (Nat.ble i.g.sz 9999 && Nat.ble (lbytes i.g) 1048576) && (match P.info? t with
    | some ti => Nat.beq ti.size (ncell i.g) && (match ti.zero with | some z => veq z (toVal i.g (zeroCells i.g)) | none => false)
    | none => false) &&
  match P.underlying t, i.g with
  | some .bool, .bool => true
  | some (.int k), .int l => (match kindEq k l with | .isTrue _ => true | .isFalse _ => false)
  | some .string, .str => true
  | some (.interface _), .err => true
  | some (.array n e), .arr m a => Nat.beq n m && (match τ e with | some j => gEq j.g a | none => false)
  | some (.slice e), .sl a => (match τ e, P.info? e with | some j, some ti => Nat.beq e i.el && gEq j.g a && Nat.beq ti.bytes i.bytes && Nat.ble (lbytes a) ti.bytes && Nat.blt 0 (lbytes a) && Nat.blt 0 (ncell a) | _, _ => false)
  | some (.struct fs), .prod .. => Nat.beq fs.size i.nf && chainB i.nf i.g && !(P.stoodInHeld t) && fieldsChk τ i 0 fs.toList
  | _, _ => false

theorem fieldsChk_get {τ : Tys} {i : TInfo} : ∀ {l : List Field} {n : Nat}, fieldsChk τ i n l = true → ∀ {k : Nat} {f : Field}, l[k]? = some f → fieldChk τ i (n + k) f = true
  | g :: l, n, h, 0, f, hf => by
    simp only [fieldsChk, Bool.and_eq_true] at h
    simp at hf; subst hf; exact h.1
  | g :: l, n, h, k + 1, f, hf => by
    simp only [fieldsChk, Bool.and_eq_true] at h
    have := fieldsChk_get h.2 (k := k) (f := f) (by simpa using hf)
    rwa [show n + 1 + k = n + (k + 1) by omega] at this
  | [], _, _, _, _, hf => by cases hf

theorem TyOK.of_chk {P : Program} {τ : Tys} {t : TypeId} {i : TInfo} (h : tyChk P τ t i = true) : TyOK P τ t i := by
  unfold tyChk at h
  rw [Bool.and_eq_true, Bool.and_eq_true, Bool.and_eq_true] at h
  obtain ⟨⟨⟨h0', hsm'⟩, h1⟩, h2⟩ := h
  rw [Bool.and_eq_true] at hsm'
  have hsm : i.g.sz ≤ 9999 ∧ lbytes i.g ≤ 1048576 := ⟨Nat.le_of_ble_eq_true hsm'.1, Nat.le_of_ble_eq_true hsm'.2⟩
  clear hsm'
  have h0 : i.g = .err ∨ P.eqGuardType P.depth t = false := by
    rw [Bool.or_eq_true] at h0'
    exact h0'.imp gEq_eq (fun h => by simpa using h)
  clear h0'
  have hi : ∃ ti, P.info? t = some ti ∧ ti.size = ncell i.g ∧ ti.zero = some (toVal i.g (zeroCells i.g)) := by
    split at h1
    · rename_i ti hti
      rw [Bool.and_eq_true] at h1
      refine ⟨ti, hti, Nat.eq_of_beq_eq_true h1.1, ?_⟩
      have := h1.2
      split at this
      · rename_i z hz
        rw [hz, veq_eq _ _ this]
      · cases this
    · cases h1
  obtain ⟨g, nf, by_, el⟩ := i
  simp only at h2 hi
  split at h2 <;> first | (cases h2; done) | skip
  · rename_i hu; exact ⟨h0, hsm, hi, by simp only [hu]; rfl, hu⟩
  · rename_i k l hu
    refine ⟨h0, hsm, hi, by simp only [hu]; rfl, ?_⟩
    split at h2
    · rename_i e _; subst e; exact hu
    · cases h2
  · rename_i hu; exact ⟨h0, hsm, hi, by simp only [hu]; rfl, hu⟩
  · rename_i ms hu; exact ⟨h0, hsm, hi, by simp only [hu]; rfl, ms, hu⟩
  · rename_i n e m a hu
    rw [Bool.and_eq_true] at h2
    have hn := Nat.eq_of_beq_eq_true h2.1
    subst hn
    refine ⟨h0, hsm, hi, by simp only [hu]; rfl, ?_⟩
    have h3 := h2.2
    split at h3
    · rename_i j hj; exact ⟨e, j, hu, hj, gEq_eq h3⟩
    · cases h3
  · rename_i e a hu
    refine ⟨h0, hsm, hi, by simp only [hu]; rfl, ?_⟩
    split at h2
    · rename_i j ti hj hti
      simp only [Bool.and_eq_true] at h2
      obtain ⟨⟨⟨⟨⟨q0, q1⟩, q2⟩, q3⟩, q4⟩, q5⟩ := h2
      exact ⟨e, j, ti, hu, Nat.eq_of_beq_eq_true q0, hj, gEq_eq q1, hti, Nat.eq_of_beq_eq_true q2, Nat.le_of_ble_eq_true q3, by simpa [Nat.blt_eq] using q4, by simpa [Nat.blt_eq] using q5⟩
    · cases h2
  · rename_i fs a b hu
    simp only [Bool.and_eq_true] at h2
    refine ⟨h0, hsm, hi, by simp only [hu]; rfl, fs, hu, Nat.eq_of_beq_eq_true h2.1.1.1, chain_of h2.1.1.2, by simpa using h2.1.2, fun k f hf => ?_⟩
    have := fieldsChk_get h2.2 (k := k) (f := f) (by simpa using hf)
    rw [Nat.zero_add] at this
    unfold fieldChk at this
    simp only [Bool.and_eq_true] at this
    obtain ⟨⟨⟨q1, q2⟩, q3⟩, q4⟩ := this
    refine ⟨by simpa using q1, Nat.eq_of_beq_eq_true q2, inBb_inB q3, ?_⟩
    split at q4
    · rename_i j h hj hh
      rw [Bool.and_eq_true] at q4
      exact ⟨j, hj, by rw [hh, gEq_eq q4.1], by simpa [Nat.blt_eq] using q4.2⟩
    · cases q4
def tabChk (P : Program) (τ : Tys) : Nat → List (Option TInfo) → Bool
  | _, [] => true
  | t, none :: l => tabChk P τ (t + 1) l
  | t, some i :: l => tyChk P τ t i && tabChk P τ (t + 1) l

theorem tabChk_get {P : Program} {τ : Tys} : ∀ {l : List (Option TInfo)} {n : Nat}, tabChk P τ n l = true → ∀ {k : Nat} {i : TInfo}, l[k]? = some (some i) → tyChk P τ (n + k) i = true
  | none :: l, n, h, 0, i, hi => by simp at hi
  | some j :: l, n, h, 0, i, hi => by
    simp only [tabChk, Bool.and_eq_true] at h
    simp at hi; subst hi; exact h.1
  | none :: l, n, h, k + 1, i, hi => by
    have := tabChk_get (n := n + 1) (by simpa [tabChk] using h) (k := k) (i := i) (by simpa using hi)
    rwa [show n + 1 + k = n + (k + 1) by omega] at this
  | some j :: l, n, h, k + 1, i, hi => by
    simp only [tabChk, Bool.and_eq_true] at h
    have := tabChk_get h.2 (k := k) (i := i) (by simpa using hi)
    rwa [show n + 1 + k = n + (k + 1) by omega] at this
  | [], _, _, _, _, hi => by simp at hi

theorem tysOK_of_chk {P : Program} {L : List (Option TInfo)} (h : tabChk P (fun t => L.getD t none) 0 L = true) : TysOK P (fun t => L.getD t none) := fun t i hi => by
  have hl : L[t]? = some (some i) := by
    simp only [List.getD] at hi
    cases hh : L[t]? with
    | none => rw [hh] at hi; cases hi
    | some o => rw [hh] at hi; simp at hi; rw [hi]
  have := tabChk_get h (k := t) (i := i) hl
  rw [Nat.zero_add] at this
  exact .of_chk this
end Go.Ev
/- Package tables that code reads: they stand where they stood, and hold what they held. -/
namespace Go.Ev
def Tab (S : Stab) (w : World) : Prop := (∀ p ∈ tabC, ∀ (o : Nat), S p.1 o ∧ w.cell? ⟨p.1, o, none⟩ = p.2[o]?) ∧ ∀ p ∈ anyC, S p.1 0 ∧ ∃ v, p.2 v ∧ w.cell? ⟨p.1, 0, none⟩ = some v
theorem Tab.keeps {S S' : Stab} {w w' : World} (h : Tab S w) (k : Keeps S S' w w') : Tab S' w' := ⟨fun p hp o =>
  ⟨(k _ _ (h.1 p hp o).1).1, ((k _ _ (h.1 p hp o).1).2).trans (h.1 p hp o).2⟩, fun p hp => by
    obtain ⟨h1, v, h2, h3⟩ := h.2 p hp
    exact ⟨(k _ _ h1).1, v, h2, ((k _ _ h1).2).trans h3⟩⟩
theorem encL_ints {w : World} {S : Stab} {k : IntKind} : ∀ {zs : List Int}, (∀ z ∈ zs, k.has z) → encL (Enc w S (.int k)) zs (zs.map (Value.int k))
  | [], _ => rfl
  | z :: zs, h => ⟨[.int k z], zs.map (Value.int k), rfl, ⟨rfl, h z (List.mem_cons_self ..)⟩, encL_ints fun y hy => h y (List.mem_cons_of_mem _ hy)⟩
theorem lk_tab {g : Nat} {x : IntKind × List Int} : ∀ {l : List (Nat × IntKind × List Int)}, lk g l = some x → (g, x) ∈ l
  | [], h => by cases h
  | (j, v) :: l, h => by
    simp only [lk] at h
    split at h
    · rename_i hb
      have := Nat.eq_of_beq_eq_true hb
      subst this
      simp only [Option.some.injEq] at h
      subst h
      exact List.mem_cons_self ..
    · exact List.mem_cons_of_mem _ (lk_tab h)
end Go.Ev
/- Abstract values and boxes, held against the machine's. -/
set_option linter.unusedVariables false
namespace Go.Ev

def blkOf : Value → Option Nat
  | .pointer (some a) => some a.block
  | .slice (some a) _ _ => some a.block
  | _ => none

abbrev Bxs := List (Nat × Bool × Box)
structure Ref where
  w0 : World
  own : Nat → Prop
  S0 : Stab
  tab : Tab S0 w0

def Ref.new (R : Ref) (k : Nat) : Prop := R.w0.heap.size ≤ k ∨ R.own k

structure Mem where
  w : World
  S : Stab
  β : Nat → Value
  bs : Bxs

def okPath : Box → GTy → List PStep → Prop
  | .var g' _, g, p => g' = g ∧ inB g p
  | .row _ h xs _, g, p => g = .arr 0 h ∧ ∃ i q, p = .idx i :: q ∧ i < xs.length ∧ inB h q
  | .iter _ _, g, p => g = .unit ∧ p = []

def isRow : Box → Prop
  | .row .. => True
  | _ => False

mutual
def RelV (M : Mem) : AV → Value → Prop
  | .undef, _ => True
  | .cst v, u => u = v
  | .val g x, u => ∃ cs, Enc M.w M.S g x cs ∧ u = toVal g cs
  | .ptr b g p, u => ∃ blk d B, lk b M.bs = some (d, B) ∧ okPath B g p ∧ blkOf (M.β b) = some blk ∧ u = .pointer (some ⟨blk, offs g p, none⟩)
  | .ref g x, u => ∃ blk off cs, Enc M.w M.S g x cs ∧ (∀ (j : Nat) v, cs[j]? = some v → M.w.cell? ⟨blk, off + j, none⟩ = some v ∧ M.S blk (off + j)) ∧ u = .pointer (some ⟨blk, off, none⟩)
  | .tip b, u => (∃ d B, lk b M.bs = some (d, B) ∧ isRow B) ∧ u = M.β b
  | .tup l, u => ∃ vs, u = .tuple vs ∧ RelL M l vs.toList
  | .clo f l, u => ∃ vs, u = .func (.func f) #[] vs ∧ RelL M l vs.toList
  | .nxt c i r, u => ∃ vs : Array Value, u = .tuple vs ∧ vs[0]? = some (.bool c) ∧ (c = true → vs[1]? = some (.int .i64 i) ∧ vs[2]? = some (.int .i32 r) ∧ IntKind.i64.has i ∧ IntKind.i32.has r)
  | .win b lo, u => ∃ n blk d B, lk b M.bs = some (d, B) ∧ okPath B (.arr n (.int .u8)) [] ∧ lo < n ∧ blkOf (M.β b) = some blk ∧ u = .slice (some ⟨blk, lo, none⟩) (n - lo) (n - lo)
def RelL (M : Mem) : List AV → List Value → Prop
  | [], [] => True
  | v :: l, u :: us => RelV M v u ∧ RelL M l us
  | _, _ => False
end

def RelB (R : Ref) (w : World) (S : Stab) (v : Value) : Box → Prop
  | .var g x => ∃ blk cs e, v = .pointer (some ⟨blk, 0, none⟩) ∧ w.heap[blk]? = some (.cells cs e (0, 0)) ∧ Enc w S g x cs.toList ∧ (∀ o, ¬ S blk o) ∧ R.new blk
  | .row e g xs fz => ∃ cs, w.ownsRow 0 e (ncell g) v xs.length cs ∧ encL (Enc w S g) xs cs ∧ xs.length * lbytes g ≤ maxRow ∧ xs.length ≤ maxRow ∧ 0 < ncell g ∧
      ∀ blk, blkOf v = some blk → R.new blk ∧ ∀ o, S blk o → fz = true ∧ o < xs.length * ncell g
  | .iter y pos => ∃ blk, v = .pointer (some ⟨blk, 0, none⟩) ∧ w.heap[blk]? = some (.stringIter ⟨⟨y⟩⟩ pos) ∧ y.length ≤ maxStr ∧ (∀ o, ¬ S blk o) ∧ R.new blk

structure InvM (R : Ref) (M : Mem) : Prop where
  os : M.w.os = R.w0.os
  tape : M.w.tape = R.w0.tape
  output : M.w.output = R.w0.output
  size : R.w0.heap.size ≤ M.w.heap.size
  frame : ∀ k, k < R.w0.heap.size → ¬ R.own k → M.w.heap[k]? = R.w0.heap[k]?
  old : Keeps R.S0 M.S R.w0 M.w
  here : ∀ b o, M.S b o → (R.S0 b o ∨ R.new b) ∧ b < M.w.heap.size
  boxes : ∀ b d B, lk b M.bs = some (d, B) → RelB R M.w M.S (M.β b) B
  sep : ∀ b c d B d' B', b ≠ c → lk b M.bs = some (d, B) → lk c M.bs = some (d', B') → ∀ k, blkOf (M.β b) = some k → blkOf (M.β c) ≠ some k

def Box.le (B B' : Box) : Prop := (∀ g p, okPath B g p → okPath B' g p) ∧ (isRow B → isRow B')

theorem Box.le_refl (B : Box) : Box.le B B := ⟨fun _ _ h => h, fun h => h⟩
theorem Box.le.trans {A B C : Box} (h : Box.le A B) (k : Box.le B C) : Box.le A C := ⟨fun g p x => k.1 g p (h.1 g p x), fun x => k.2 (h.2 x)⟩
structure Step (M M' : Mem) (K : Nat → Prop) : Prop where
  keeps : Keeps M.S M'.S M.w M'.w
  boxes : ∀ b d B, lk b M.bs = some (d, B) → ¬ K b → ∃ d' B', lk b M'.bs = some (d', B') ∧ M'.β b = M.β b ∧ Box.le B B'

theorem Step.refl (M : Mem) (K : Nat → Prop) : Step M M K := ⟨Keeps.refl _ _, fun b d B h _ => ⟨d, B, h, rfl, Box.le_refl B⟩⟩
theorem Step.trans {M M' M'' : Mem} {K K' : Nat → Prop} (h : Step M M' K) (k : Step M' M'' K') : Step M M'' (fun b => K b ∨ K' b) :=
  ⟨h.keeps.trans k.keeps, fun b d B hb hK => by
    obtain ⟨d1, B1, h1, h2, h3⟩ := h.boxes b d B hb (fun x => hK (.inl x))
    obtain ⟨d2, B2, k1, k2, k3⟩ := k.boxes b d1 B1 h1 (fun x => hK (.inr x))
    exact ⟨d2, B2, k1, k2.trans h2, h3.trans k3⟩⟩
theorem Step.mono {M M' : Mem} {K K' : Nat → Prop} (h : Step M M' K) (hk : ∀ b, K b → K' b) : Step M M' K' :=
  ⟨h.keeps, fun b d B hb hK => h.boxes b d B hb (fun x => hK (hk b x))⟩

mutual
theorem RelV.step {M M' : Mem} {K : Nat → Prop} (s : Step M M' K) : ∀ {v : AV} {u : Value}, RelV M v u → (∀ b, K b → v.has b = false) → RelV M' v u
  | .undef, _, _, _ => by simp [RelV]
  | .cst _, _, h, _ => by simpa [RelV] using h
  | .val _ _, _, h, _ => by
    simp only [RelV] at h ⊢
    obtain ⟨cs, h1, h2⟩ := h
    exact ⟨cs, h1.keeps s.keeps, h2⟩
  | .ptr b g p, _, h, hK => by
    simp only [RelV] at h ⊢
    obtain ⟨blk, d, B, h1, h2, h3, h4⟩ := h
    obtain ⟨d', B', k1, k2, k3⟩ := s.boxes b d B h1 (fun hb => by have := hK b hb; simp [AV.has] at this)
    exact ⟨blk, d', B', k1, k3.1 _ _ h2, by rw [k2]; exact h3, h4⟩
  | .ref g x, _, h, _ => by
    simp only [RelV] at h ⊢
    obtain ⟨blk, off, cs, h1, h2, h3⟩ := h
    exact ⟨blk, off, cs, h1.keeps s.keeps, fun j v hv => ⟨((s.keeps _ _ (h2 j v hv).2).2).trans (h2 j v hv).1, (s.keeps _ _ (h2 j v hv).2).1⟩, h3⟩
  | .tip b, _, h, hK => by
    simp only [RelV] at h ⊢
    obtain ⟨⟨d, B, h1, h2⟩, h3⟩ := h
    obtain ⟨d', B', k1, k2, k3⟩ := s.boxes b d B h1 (fun hb => by have := hK b hb; simp [AV.has] at this)
    exact ⟨⟨d', B', k1, k3.2 h2⟩, by rw [k2]; exact h3⟩
  | .tup l, _, h, hK => by
    simp only [RelV] at h ⊢
    obtain ⟨vs, h1, h2⟩ := h
    exact ⟨vs, h1, RelL.step s h2 (fun b hb => by simpa [AV.has] using hK b hb)⟩
  | .clo f l, _, h, hK => by
    simp only [RelV] at h ⊢
    obtain ⟨vs, h1, h2⟩ := h
    exact ⟨vs, h1, RelL.step s h2 (fun b hb => by simpa [AV.has] using hK b hb)⟩
  | .nxt _ _ _, _, h, _ => by simpa only [RelV] using h
  | .win b lo, _, h, hK => by
    simp only [RelV] at h ⊢
    obtain ⟨n, blk, d, B, h1, h2, h3, h4, h5⟩ := h
    obtain ⟨d', B', k1, k2, k3⟩ := s.boxes b d B h1 (fun hb => by have := hK b hb; simp [AV.has] at this)
    exact ⟨n, blk, d', B', k1, k3.1 _ _ h2, h3, by rw [k2]; exact h4, h5⟩
theorem RelL.step {M M' : Mem} {K : Nat → Prop} (s : Step M M' K) : ∀ {l : List AV} {us : List Value}, RelL M l us → (∀ b, K b → AV.hasL b l = false) → RelL M' l us
  | [], [], _, _ => by simp [RelL]
  | v :: l, u :: us, h, hK => by
    simp only [RelL] at h ⊢
    refine ⟨RelV.step s h.1 (fun b hb => ?_), RelL.step s h.2 (fun b hb => ?_)⟩
    · have := hK b hb; simp only [AV.hasL, Bool.or_eq_false_iff] at this; exact this.1
    · have := hK b hb; simp only [AV.hasL, Bool.or_eq_false_iff] at this; exact this.2
  | [], _ :: _, h, _ => by simp [RelL] at h
  | _ :: _, [], h, _ => by simp [RelL] at h
end

theorem RelV.steps {M M' : Mem} (s : Step M M' (fun _ => False)) {v : AV} {u : Value} (h : RelV M v u) : RelV M' v u := h.step s (fun _ hb => hb.elim)
theorem RelL.steps {M M' : Mem} (s : Step M M' (fun _ => False)) {l : List AV} {us : List Value} (h : RelL M l us) : RelL M' l us := h.step s (fun _ hb => hb.elim)

theorem RelL.length {M : Mem} : ∀ {l : List AV} {us : List Value}, RelL M l us → l.length = us.length
  | [], [], _ => rfl
  | v :: l, u :: us, h => by simp only [RelL] at h; simp [RelL.length h.2]
  | [], _ :: _, h => by simp [RelL] at h
  | _ :: _, [], h => by simp [RelL] at h

theorem RelL.get {M : Mem} : ∀ {l : List AV} {us : List Value} (i : Nat) {v : AV}, RelL M l us → l[i]? = some v → ∃ u, us[i]? = some u ∧ RelV M v u
  | v :: l, u :: us, 0, w, h, hw => by simp only [RelL] at h; simp at hw; subst hw; exact ⟨u, rfl, h.1⟩
  | v :: l, u :: us, i + 1, w, h, hw => by
    simp only [RelL] at h
    obtain ⟨u', h1, h2⟩ := RelL.get i h.2 (by simpa using hw)
    exact ⟨u', by simpa using h1, h2⟩
  | [], _, _, _, _, hw => by simp at hw
  | _ :: _, [], _, _, h, _ => by simp [RelL] at h

/-! Lists by number -/

theorem lk_st_same {α : Type} (k : Nat) (v : α) : ∀ l : List (Nat × α), lk k (st' k v l) = some v
  | [] => by simp [st', lk]
  | (j, u) :: l => by
    simp only [st']
    split
    · simp [lk]
    · rename_i h; simp only [lk, h]; exact lk_st_same k v l

theorem lk_st_other {α : Type} (k j : Nat) (v : α) (h : j ≠ k) : ∀ l : List (Nat × α), lk j (st' k v l) = lk j l
  | [] => by
    have : Nat.beq k j = false := by cases hh : Nat.beq k j with | false => rfl | true => exact absurd (Nat.eq_of_beq_eq_true hh).symm h
    simp [st', lk, this]
  | (i, u) :: l => by
    simp only [st']
    split
    · rename_i hi
      have hik := Nat.eq_of_beq_eq_true hi
      subst hik
      have : Nat.beq i j = false := by cases hh : Nat.beq i j with | false => rfl | true => exact absurd (Nat.eq_of_beq_eq_true hh).symm h
      simp [lk, this]
    · simp only [lk]; rw [lk_st_other k j v h l]

theorem lk_st {α : Type} (k j : Nat) (v : α) (l : List (Nat × α)) : lk j (st' k v l) = if j = k then some v else lk j l := by
  split
  · rename_i h; subst h; exact lk_st_same j v l
  · rename_i h; exact lk_st_other k j v h l
end Go.Ev
/- What the machine does to memory, told of boxes. -/
set_option linter.unusedVariables false
namespace Go.Ev

theorem RelB.move {R : Ref} {w w' : World} {S S' : Stab} {v : Value} {B : Box} (h : RelB R w S v B) (hk : Keeps S S' w w') (hb : ∀ blk, blkOf v = some blk → w'.heap[blk]? = w.heap[blk]?)
    (hs : ∀ blk o, blkOf v = some blk → S' blk o → S blk o) : RelB R w' S' v B := by
  cases B with
  | var g x =>
    obtain ⟨blk, cs, e, rfl, h2, h3, h4, h5⟩ := h
    exact ⟨blk, cs, e, rfl, by rw [hb blk rfl]; exact h2, h3.keeps hk, fun o ho => h4 o (hs blk o rfl ho), h5⟩
  | row e g xs fz =>
    obtain ⟨cs, h1, h2, h3, h4, h5, h6⟩ := h
    refine ⟨cs, ?_, encL_mono (fun _ _ hh => hh.keeps hk) h2, h3, h4, h5, fun blk hblk => ⟨(h6 blk hblk).1, fun o ho => (h6 blk hblk).2 o (hs blk o hblk ho)⟩⟩
    obtain ⟨q1, q2⟩ := h1
    refine ⟨q1, ?_⟩
    rcases q2 with q2 | ⟨g', cap, cur, rfl, r1, r2, r3⟩
    · exact .inl q2
    · exact .inr ⟨g', cap, cur, rfl, r1, by rw [hb g' rfl]; exact r2, r3⟩
  | iter y pos =>
    obtain ⟨blk, rfl, h2, h3, h4, h5⟩ := h
    exact ⟨blk, rfl, by rw [hb blk rfl]; exact h2, h3, fun o ho => h4 o (hs blk o rfl ho), h5⟩

theorem RelB.lt {R : Ref} {w : World} {S : Stab} {v : Value} {B : Box} (h : RelB R w S v B) : ∀ blk, blkOf v = some blk → blk < w.heap.size := by
  intro blk hblk
  cases B with
  | var g x =>
    obtain ⟨b, cs, e, rfl, h2, _⟩ := h
    simp [blkOf] at hblk; subst hblk
    exact (Array.getElem?_eq_some_iff.1 h2).1
  | row e g xs fz =>
    obtain ⟨cs, h1, _⟩ := h
    rcases h1.2 with ⟨rfl, _⟩ | ⟨g', cap, cur, rfl, r1, r2, r3⟩
    · simp [blkOf] at hblk
    · simp [blkOf] at hblk; subst hblk
      exact (Array.getElem?_eq_some_iff.1 r2).1
  | iter y pos =>
    obtain ⟨b, rfl, h2, _⟩ := h
    simp [blkOf] at hblk; subst hblk
    exact (Array.getElem?_eq_some_iff.1 h2).1

theorem RelB.new {R : Ref} {w : World} {S : Stab} {v : Value} {B : Box} (h : RelB R w S v B) : ∀ blk, blkOf v = some blk → R.new blk := by
  intro blk hblk
  cases B with
  | var g x =>
    obtain ⟨b, cs, e, rfl, h2, _, _, h5⟩ := h
    simp [blkOf] at hblk; subst hblk
    exact h5
  | row e g xs fz =>
    obtain ⟨cs, h1, _, _, _, _, h6⟩ := h
    exact (h6 blk hblk).1
  | iter y pos =>
    obtain ⟨b, rfl, _, _, _, h5⟩ := h
    simp [blkOf] at hblk; subst hblk
    exact h5
structure Grows (w w' : World) : Prop where
  os : w'.os = w.os
  tape : w'.tape = w.tape
  output : w'.output = w.output
  size : w.heap.size ≤ w'.heap.size
  block : ∀ k, k < w.heap.size → w'.heap[k]? = w.heap[k]?

theorem Grows.refl (w : World) : Grows w w := ⟨rfl, rfl, rfl, Nat.le_refl _, fun _ _ => rfl⟩
theorem Grows.trans {a b c : World} (h : Grows a b) (k : Grows b c) : Grows a c :=
  ⟨k.os.trans h.os, k.tape.trans h.tape, k.output.trans h.output, Nat.le_trans h.size k.size, fun i hi => (k.block i (Nat.lt_of_lt_of_le hi h.size)).trans (h.block i hi)⟩
theorem Grows.drew (w : World) : Grows w w.drew := ⟨rfl, rfl, rfl, Nat.le_refl _, fun _ _ => rfl⟩
theorem Grows.alloc (w : World) (o : Obj) : Grows w (w.alloc o) := ⟨rfl, rfl, rfl, by simp, fun k hk => heap_alloc_old w o k hk⟩
theorem Grows.below {w w' : World} (h : RowKit.Below w.heap.size w w') : Grows w w' := ⟨h.os, h.tape, h.output, h.size, h.block⟩

theorem cell_of_heap {w w' : World} {b o : Nat} (h : w'.heap[b]? = w.heap[b]?) : w'.cell? ⟨b, o, none⟩ = w.cell? ⟨b, o, none⟩ := by simp [World.cell?, h]
theorem InvM.grows {R : Ref} {M : Mem} (I : InvM R M) {w' : World} (g : Grows M.w w') (N : Stab) (hN : ∀ b o, N b o → M.w.heap.size ≤ b ∧ b < w'.heap.size) :
    InvM R { M with w := w', S := fun b o => M.S b o ∨ N b o } ∧ Step M { M with w := w', S := fun b o => M.S b o ∨ N b o } (fun _ => False) := by
  have hk : Keeps M.S (fun b o => M.S b o ∨ N b o) M.w w' := fun b o hs => ⟨.inl hs, cell_of_heap (g.block b (I.here b o hs).2)⟩
  refine ⟨⟨g.os.trans I.os, g.tape.trans I.tape, g.output.trans I.output, Nat.le_trans I.size g.size, fun k hk ho => (g.block k (Nat.lt_of_lt_of_le hk I.size)).trans (I.frame k hk ho), I.old.trans hk, ?_, ?_, I.sep⟩, hk, fun b d B h _ => ⟨d, B, h, rfl, Box.le_refl B⟩⟩
  · intro b o h
    rcases h with h | h
    · exact ⟨(I.here b o h).1, Nat.lt_of_lt_of_le (I.here b o h).2 g.size⟩
    · exact ⟨.inr (.inl (Nat.le_trans I.size (hN b o h).1)), (hN b o h).2⟩
  · intro b d B hb
    have hB := I.boxes b d B hb
    exact hB.move hk (fun blk hblk => g.block blk (hB.lt blk hblk)) (fun blk o hblk hs => hs.elim id (fun hn => absurd (hB.lt blk hblk) (Nat.not_lt.2 (hN blk o hn).1)))

theorem InvM.grow {R : Ref} {M : Mem} (I : InvM R M) {w' : World} (g : Grows M.w w') : InvM R { M with w := w' } ∧ Step M { M with w := w' } (fun _ => False) := by
  have := I.grows g (fun _ _ => False) (fun _ _ h => h.elim)
  simpa using this
theorem InvM.setBox {R : Ref} {M : Mem} (I : InvM R M) {w' : World} {S' : Stab} {v' : Value} (b : Nat) (B' : Box) (dd : Bool)
    (os : w'.os = M.w.os) (tape : w'.tape = M.w.tape) (output : w'.output = M.w.output) (size : M.w.heap.size ≤ w'.heap.size)
    (blk : ∀ k, k < M.w.heap.size → (∀ d B, lk b M.bs = some (d, B) → blkOf (M.β b) ≠ some k) → w'.heap[k]? = M.w.heap[k]?)
    (hk : Keeps M.S S' M.w w') (hS : ∀ k o, S' k o → M.S k o ∨ (blkOf v' = some k)) (hv : RelB R w' S' v' B')
    (hsep : ∀ k, blkOf v' = some k → (M.w.heap.size ≤ k ∨ (∃ d B, lk b M.bs = some (d, B)) ∧ blkOf (M.β b) = some k)) :
    InvM R { w := w', S := S', β := fun c => if c = b then v' else M.β c, bs := st' b (dd, B') M.bs } := by
  have hne : ∀ c d B, c ≠ b → lk c M.bs = some (d, B) → ∀ k, blkOf (M.β c) = some k → blkOf v' ≠ some k := by
    intro c d B hc hB k hck hvk
    rcases hsep k hvk with h | ⟨⟨d', B'', hb⟩, h⟩
    · exact absurd ((I.boxes c d B hB).lt k hck) (Nat.not_lt.2 h)
    · exact I.sep c b d B d' B'' hc hB hb k hck h
  refine ⟨os.trans I.os, tape.trans I.tape, output.trans I.output, Nat.le_trans I.size size, ?_, I.old.trans hk, ?_, ?_, ?_⟩
  · intro k h ho
    refine (blk k (Nat.lt_of_lt_of_le h I.size) ?_).trans (I.frame k h ho)
    intro d B hB hbk
    rcases (I.boxes b d B hB).new k hbk with h' | h'
    · omega
    · exact ho h'
  · intro x o h
    rcases hS x o h with h' | h'
    · exact ⟨(I.here x o h').1, Nat.lt_of_lt_of_le (I.here x o h').2 size⟩
    · exact ⟨.inr (hv.new x h'), hv.lt x h'⟩
  · intro c d B hc
    simp only [lk_st] at hc
    by_cases hcb : c = b
    · subst hcb
      simp at hc
      obtain ⟨rfl, rfl⟩ := hc
      simpa using hv
    · simp only [hcb, if_false] at hc ⊢
      have hB := I.boxes c d B hc
      refine hB.move hk (fun x hx => blk x (hB.lt x hx) ?_) (fun x o hx hs => ?_)
      · intro d' B'' hb hbx
        exact I.sep c b d B d' B'' hcb hc hb x hx hbx
      · exact (hS x o hs).resolve_right (hne c d B hcb hc x hx)
  · intro c1 c2 d1 B1 d2 B2 h12 hc1 hc2 k
    simp only [lk_st] at hc1 hc2
    by_cases h1 : c1 = b
    · subst h1
      have h2 : c2 ≠ c1 := fun h => h12 h.symm
      simp only [h2, if_false, if_true] at hc2 ⊢
      intro hk1 hk2
      exact hne c2 d2 B2 h2 hc2 k hk2 hk1
    · simp only [h1, if_false] at hc1 ⊢
      by_cases h2 : c2 = b
      · subst h2
        simp only [if_true]
        exact hne c1 d1 B1 h1 hc1 k
      · simp only [h2, if_false] at hc2 ⊢
        exact I.sep c1 c2 d1 B1 d2 B2 h12 hc1 hc2 k
theorem InvM.freeze {R : Ref} {M : Mem} (I : InvM R M) {b : Nat} {d : Bool} {e : Nat} {g : GTy} {xs : List (den g)} {fz : Bool} (hb : lk b M.bs = some (d, .row e g xs fz)) :
    ∃ S', InvM R { M with S := S', bs := st' b (true, .row e g xs true) M.bs } ∧ Step M { M with S := S', bs := st' b (true, .row e g xs true) M.bs } (fun _ => False) ∧ Enc M.w S' (.sl g) xs [M.β b] := by
  have hB := I.boxes b d _ hb
  obtain ⟨cs, h1, h2, h3, h4, h5, h6⟩ := hB
  let S' : Stab := fun k o => M.S k o ∨ (blkOf (M.β b) = some k ∧ o < xs.length * ncell g)
  have hk : Keeps M.S S' M.w M.w := fun x o hs => ⟨.inl hs, rfl⟩
  have hB' : RelB R M.w S' (M.β b) (.row e g xs true) :=
    ⟨cs, h1, encL_mono (fun _ _ hh => hh.keeps hk) h2, h3, h4, h5, fun blk hblk => ⟨(h6 blk hblk).1, fun o ho => ⟨rfl, ho.elim (fun hs => ((h6 blk hblk).2 o hs).2) (fun hs => hs.2)⟩⟩⟩
  have J := I.setBox (w' := M.w) (S' := S') (v' := M.β b) b (.row e g xs true) true rfl rfl rfl (Nat.le_refl _) (fun _ _ _ => rfl) hk (fun k o h => h.imp id (fun h => h.1)) hB' (fun k h => .inr ⟨⟨d, _, hb⟩, h⟩)
  have hβ : (fun c => if c = b then M.β b else M.β c) = M.β := by funext c; split <;> simp_all
  rw [hβ] at J
  refine ⟨S', J, ⟨hk, fun c dc Bc hc _ => ?_⟩, ?_⟩
  · simp only [lk_st]
    by_cases hcb : c = b
    · subst hcb
      rw [hb] at hc
      simp only [Option.some.injEq, Prod.mk.injEq] at hc
      obtain ⟨rfl, rfl⟩ := hc
      exact ⟨true, .row e g xs true, by simp, trivial, ⟨fun g' p hp => hp, fun h => h⟩⟩
    · exact ⟨dc, Bc, by simp only [hcb, if_false]; exact hc, trivial, Box.le_refl _⟩
  · rcases h1.2 with ⟨hn, hz⟩ | ⟨blk, cap, cur, hv, r1, r2, r3, r4, r5, r6⟩
    · have hxs : xs = [] := List.eq_nil_of_length_eq_zero hz
      subst hxs
      exact ⟨none, 0, by rw [hn]; rfl, Nat.le_refl _, by simp, Nat.zero_le _, .inl rfl⟩
    · refine ⟨some ⟨blk, 0, none⟩, cap, by rw [hv], r3, h3, h4, .inr ⟨blk, 0, cs, rfl, encL_mono (fun _ _ hh => hh.keeps hk) h2, fun j v hj => ?_⟩⟩
      have hjlt : j < xs.length * ncell g := by
        rw [← h1.1]
        exact (List.getElem?_eq_some_iff.1 hj).1
      refine ⟨?_, .inr ⟨by rw [hv]; rfl, by simpa using hjlt⟩⟩
      rw [cell_of_row M.w blk (0 + j) cur e (0, 0) r2]
      rw [← r6, List.getElem?_take] at hj
      simp only [hjlt, if_true] at hj
      simpa using hj
theorem InvM.newVar {R : Ref} {M : Mem} (I : InvM R M) {g : GTy} {x : den g} {cs : List Value} (e : TypeId) (b : Nat) (h : Enc M.w M.S g x cs) :
    InvM R { w := M.w.alloc (.cells cs.toArray e), S := M.S, β := fun c => if c = b then .pointer (some ⟨M.w.heap.size, 0, none⟩) else M.β c, bs := st' b (true, .var g x) M.bs } ∧
    Step M { w := M.w.alloc (.cells cs.toArray e), S := M.S, β := fun c => if c = b then .pointer (some ⟨M.w.heap.size, 0, none⟩) else M.β c, bs := st' b (true, .var g x) M.bs } (fun c => c = b) := by
  have gr := Grows.alloc M.w (.cells cs.toArray e)
  have hk : Keeps M.S M.S M.w (M.w.alloc (.cells cs.toArray e)) := fun x o hs => ⟨hs, cell_of_heap (gr.block x (I.here x o hs).2)⟩
  have hB : RelB R (M.w.alloc (.cells cs.toArray e)) M.S (.pointer (some ⟨M.w.heap.size, 0, none⟩)) (.var g x) :=
    ⟨M.w.heap.size, cs.toArray, e, rfl, heap_alloc_new M.w _, by simpa using h.keeps hk, fun o ho => absurd (I.here _ o ho).2 (Nat.lt_irrefl _), .inl I.size⟩
  refine ⟨I.setBox b _ true rfl rfl rfl gr.size (fun k hk _ => gr.block k hk) hk (fun _ _ h => .inl h) hB (fun k h => .inl (by simp [blkOf] at h; omega)), hk, fun c d B hc hcb => ?_⟩
  exact ⟨d, B, by simp only [lk_st]; simp [hcb, hc], by simp [hcb], Box.le_refl B⟩
theorem InvM.newIter {R : Ref} {M : Mem} (I : InvM R M) {y : List UInt8} (b : Nat) (h : y.length ≤ maxStr) :
    InvM R { w := M.w.alloc (.stringIter ⟨⟨y⟩⟩ 0), S := M.S, β := fun c => if c = b then .pointer (some ⟨M.w.heap.size, 0, none⟩) else M.β c, bs := st' b (true, .iter y 0) M.bs } ∧
    Step M { w := M.w.alloc (.stringIter ⟨⟨y⟩⟩ 0), S := M.S, β := fun c => if c = b then .pointer (some ⟨M.w.heap.size, 0, none⟩) else M.β c, bs := st' b (true, .iter y 0) M.bs } (fun c => c = b) := by
  have gr := Grows.alloc M.w (.stringIter ⟨⟨y⟩⟩ 0)
  have hk : Keeps M.S M.S M.w (M.w.alloc (.stringIter ⟨⟨y⟩⟩ 0)) := fun x o hs => ⟨hs, cell_of_heap (gr.block x (I.here x o hs).2)⟩
  have hB : RelB R (M.w.alloc (.stringIter ⟨⟨y⟩⟩ 0)) M.S (.pointer (some ⟨M.w.heap.size, 0, none⟩)) (.iter y 0) :=
    ⟨M.w.heap.size, rfl, heap_alloc_new M.w _, h, fun o ho => absurd (I.here _ o ho).2 (Nat.lt_irrefl _), .inl I.size⟩
  refine ⟨I.setBox b _ true rfl rfl rfl gr.size (fun k hk _ => gr.block k hk) hk (fun _ _ h => .inl h) hB (fun k h => .inl (by simp [blkOf] at h; omega)), hk, fun c d B hc hcb => ?_⟩
  exact ⟨d, B, by simp only [lk_st]; simp [hcb, hc], by simp [hcb], Box.le_refl B⟩
theorem InvM.nextIter {R : Ref} {M : Mem} (I : InvM R M) {b : Nat} {d : Bool} {y : List UInt8} {pos : Nat} (hb : lk b M.bs = some (d, .iter y pos)) (pos' : Nat) {w' : World}
    (os : w'.os = M.w.os) (tape : w'.tape = M.w.tape) (output : w'.output = M.w.output) (size : M.w.heap.size ≤ w'.heap.size)
    (hw : ∀ blk, M.β b = .pointer (some ⟨blk, 0, none⟩) → w'.heap[blk]? = some (.stringIter ⟨⟨y⟩⟩ pos') ∧ ∀ k, k ≠ blk → w'.heap[k]? = M.w.heap[k]?) :
    InvM R { M with w := w', bs := st' b (true, .iter y pos') M.bs } ∧ Step M { M with w := w', bs := st' b (true, .iter y pos') M.bs } (fun _ => False) := by
  obtain ⟨blk, hv, h2, h3, h4, h5⟩ := I.boxes b d _ hb
  obtain ⟨hw1, hoth⟩ := hw blk hv
  have hk : Keeps M.S M.S M.w w' := fun x o hs => ⟨hs, cell_of_heap (hoth x (fun hx => by subst hx; exact h4 o hs))⟩
  have hB : RelB R w' M.S (M.β b) (.iter y pos') := ⟨blk, hv, hw1, h3, h4, h5⟩
  have hβ : blkOf (M.β b) = some blk := by rw [hv]; rfl
  have J := I.setBox (w' := w') (S' := M.S) (v' := M.β b) b (.iter y pos') true os tape output size
    (fun k _ hne => hoth k (fun hk => hne d _ hb (by rw [hβ, hk]))) hk (fun _ _ h => .inl h) hB (fun k h => .inr ⟨⟨d, _, hb⟩, h⟩)
  have hbeta : (fun c => if c = b then M.β b else M.β c) = M.β := by funext c; split; (rename_i hcb; rw [hcb]); rfl
  rw [hbeta] at J
  refine ⟨J, hk, fun c' dc Bc hc _ => ?_⟩
  simp only [lk_st]
  by_cases hcb : c' = b
  · subst hcb
    rw [hb] at hc
    simp only [Option.some.injEq, Prod.mk.injEq] at hc
    obtain ⟨rfl, rfl⟩ := hc
    exact ⟨true, .iter y pos', by simp, trivial, ⟨fun g' p hp => hp, fun h => h⟩⟩
  · exact ⟨dc, Bc, by simp only [hcb, if_false]; exact hc, trivial, Box.le_refl _⟩
theorem InvM.newRow {R : Ref} {M : Mem} (I : InvM R M) {g : GTy} {xs : List (den g)} {cs : List Value} (rest : List Value) (cap : Nat) (e : TypeId) (b : Nat) (h : encL (Enc M.w M.S g) xs cs)
    (h1 : xs.length * lbytes g ≤ maxRow) (h2 : xs.length ≤ maxRow) (h3 : 0 < ncell g) (h4 : xs.length ≤ cap) (h5 : cap ≤ maxLen) (h6 : (cs ++ rest).length = cap * ncell g) :
    InvM R { w := M.w.alloc (.cells (cs ++ rest).toArray e), S := M.S, β := fun c => if c = b then .slice (some ⟨M.w.heap.size, 0, none⟩) xs.length cap else M.β c, bs := st' b (true, .row e g xs false) M.bs } ∧
    Step M { w := M.w.alloc (.cells (cs ++ rest).toArray e), S := M.S, β := fun c => if c = b then .slice (some ⟨M.w.heap.size, 0, none⟩) xs.length cap else M.β c, bs := st' b (true, .row e g xs false) M.bs } (fun c => c = b) := by
  have gr := Grows.alloc M.w (.cells (cs ++ rest).toArray e)
  have hk : Keeps M.S M.S M.w (M.w.alloc (.cells (cs ++ rest).toArray e)) := fun x o hs => ⟨hs, cell_of_heap (gr.block x (I.here x o hs).2)⟩
  have hl : cs.length = xs.length * ncell g := encL_len (fun _ _ hh => hh.len) h
  have hB : RelB R (M.w.alloc (.cells (cs ++ rest).toArray e)) M.S (.slice (some ⟨M.w.heap.size, 0, none⟩) xs.length cap) (.row e g xs false) := by
    refine ⟨cs, ⟨hl, .inr ⟨M.w.heap.size, cap, (cs ++ rest).toArray, rfl, Nat.zero_le _, heap_alloc_new M.w _, h4, h5, by simpa using h6, ?_⟩⟩, encL_mono (fun _ _ hh => hh.keeps hk) h, h1, h2, h3, fun blk hblk => ?_⟩
    · rw [← hl]; simp
    · simp [blkOf] at hblk
      subst hblk
      exact ⟨.inl I.size, fun o ho => absurd (I.here _ o ho).2 (Nat.lt_irrefl _)⟩
  refine ⟨I.setBox b _ true rfl rfl rfl gr.size (fun k hk _ => gr.block k hk) hk (fun _ _ h => .inl h) hB (fun k h => .inl (by simp [blkOf] at h; omega)), hk, fun c d B hc hcb => ?_⟩
  exact ⟨d, B, by simp only [lk_st]; simp [hcb, hc], by simp [hcb], Box.le_refl B⟩
end Go.Ev
/- Stores and appends, told of boxes. -/
set_option linter.unusedVariables false
namespace Go.Ev

theorem setRow_size (w : World) (g : Nat) (cs : Array Value) : (w.setRow g cs).heap.size = w.heap.size := by simp [World.setRow]

theorem InvM.store {R : Ref} {P : Program} {M : Mem} (I : InvM R M) {b : Nat} {d : Bool} {g : GTy} {x : den g} (hb : lk b M.bs = some (d, .var g x)) {p : List PStep} {h : GTy} {v : den h} {z : den g} {vs : List Value} {blk : Nat}
    (hu : upd g x p ⟨h, v⟩ = some z) (hp : inB g p) (hv : Enc M.w M.S h v vs) (hβ : blkOf (M.β b) = some blk) :
    ∃ w', (storeCells ⟨blk, offs g p, none⟩ vs).run P M.w = .ok () w' ∧ InvM R { M with w := w', bs := st' b (true, .var g z) M.bs } ∧ Step M { M with w := w', bs := st' b (true, .var g z) M.bs } (fun _ => False) := by
  obtain ⟨blk', cs, e, hv', h2, h3, h4, h5⟩ := I.boxes b d _ hb
  have hbb : blk' = blk := by rw [hv'] at hβ; simpa [blkOf] using hβ
  subst hbb
  obtain ⟨a, c, r, k1, k2, k3, k4⟩ := Enc.upd p h3 hu hp hv
  have hlen := hv.len
  have hsz : cs.size = (a ++ c ++ r).length := by rw [← k1]; simp
  have hst := run_storeCells_at P blk' (offs g p) e vs 0 cs M.w h2 (by rw [hsz, ← k2]; simp; omega) (fun u hu => hv.one u hu)
  simp only [Nat.add_zero] at hst
  have hcells : (cs.toList.take (offs g p) ++ vs ++ cs.toList.drop (offs g p + vs.length)).toArray = (a ++ vs ++ r).toArray := by
    congr 1
    rw [k1, ← k2, hlen, ← k3]
    have e1 : (a ++ c ++ r).take a.length = a := by rw [List.append_assoc, List.take_left' rfl]
    have e2 : (a ++ c ++ r).drop (a.length + c.length) = r := by rw [← List.length_append, List.drop_left' rfl]
    rw [e1, e2]
  rw [hcells] at hst
  have hk : Keeps M.S M.S M.w (M.w.setRow blk' (a ++ vs ++ r).toArray) := fun y o hs => ⟨hs, cell_of_heap (setRow_other _ _ _ _ (fun hy => by subst hy; exact h4 o hs))⟩
  have hB : RelB R (M.w.setRow blk' (a ++ vs ++ r).toArray) M.S (M.β b) (.var g z) :=
    ⟨blk', _, e, hv', setRow_heap _ _ _ _ _ _ h2, by simpa using k4.keeps hk, h4, h5⟩
  have J := I.setBox (w' := M.w.setRow blk' (a ++ vs ++ r).toArray) (S' := M.S) (v' := M.β b) b (.var g z) true rfl rfl rfl (by rw [setRow_size]; exact Nat.le_refl _)
    (fun k _ hne => setRow_other _ _ _ _ (fun hk => hne d _ hb (by rw [hβ, hk]))) hk (fun _ _ h => .inl h) hB (fun k h => .inr ⟨⟨d, _, hb⟩, h⟩)
  have hbeta : (fun c => if c = b then M.β b else M.β c) = M.β := by funext c; split; (rename_i hcb; rw [hcb]); rfl
  rw [hbeta] at J
  refine ⟨_, hst, J, hk, fun c' dc Bc hc _ => ?_⟩
  simp only [lk_st]
  by_cases hcb : c' = b
  · subst hcb
    rw [hb] at hc
    simp only [Option.some.injEq, Prod.mk.injEq] at hc
    obtain ⟨rfl, rfl⟩ := hc
    exact ⟨true, .var g z, by simp, trivial, ⟨fun g' p hp => hp, fun h => h⟩⟩
  · exact ⟨dc, Bc, by simp only [hcb, if_false]; exact hc, trivial, Box.le_refl _⟩

theorem upd_len {a : GTy} {n m : Nat} {x : den (.arr n a)} {p : List PStep} {v : (h : GTy) × den h} {z : den (.arr n a)} (hp : p ≠ []) (h : upd (.arr n a) x p v = some z) : List.length (α := den a) z = List.length (α := den a) x ∧ upd (.arr m a) x p v = some z := by
  match p, hp with
  | .idx i :: p, _ =>
    simp only [upd] at h ⊢
    split at h
    · rename_i y hy
      simp only [Option.some.injEq] at h
      subst h
      exact ⟨by simp, rfl⟩
    · cases h
  | .fst :: p, _ => simp [upd] at h
  | .snd :: p, _ => simp [upd] at h

theorem sub_any {a : GTy} {n m : Nat} {x : den (.arr n a)} {p : List PStep} {v : (h : GTy) × den h} (hp : p ≠ []) (h : Ev.sub (.arr n a) x p = some v) : Ev.sub (.arr m a) x p = some v := by
  match p, hp with
  | .idx i :: p, _ => simpa only [Ev.sub] using h
  | .fst :: p, _ => simp [Ev.sub] at h
  | .snd :: p, _ => simp [Ev.sub] at h

theorem offs_any {a : GTy} {n m : Nat} {p : List PStep} : offs (.arr n a) p = offs (.arr m a) p := by
  match p with
  | [] => rfl
  | .idx i :: p => rfl
  | .fst :: p => rfl
  | .snd :: p => rfl

theorem InvM.storeRow {R : Ref} {P : Program} {M : Mem} (I : InvM R M) {b : Nat} {d : Bool} {el : Nat} {g : GTy} {xs : List (den g)} (hb : lk b M.bs = some (d, .row el g xs false)) {p : List PStep} {h : GTy} {v : den h} {z : List (den g)} {vs : List Value} {blk : Nat}
    (hu : upd (.arr 0 g) xs p ⟨h, v⟩ = some z) (hp : okPath (.row el g xs false) (.arr 0 g) p) (hv : Enc M.w M.S h v vs) (hβ : blkOf (M.β b) = some blk) :
    ∃ w', (storeCells ⟨blk, offs (.arr 0 g) p, none⟩ vs).run P M.w = .ok () w' ∧ InvM R { M with w := w', bs := st' b (true, .row el g z false) M.bs } ∧ Step M { M with w := w', bs := st' b (true, .row el g z false) M.bs } (fun _ => False) := by
  obtain ⟨cs, h1, h2, h3, h4, h5, h6⟩ := I.boxes b d _ hb
  obtain ⟨_, i, q, hpq, hi, hq⟩ := hp
  have hpne : p ≠ [] := by rw [hpq]; simp
  obtain ⟨hzl, hu'⟩ := upd_len (m := xs.length) hpne hu
  have henc : Enc M.w M.S (.arr xs.length g) xs cs := ⟨rfl, h2⟩
  have hin : inB (.arr xs.length g) p := by rw [hpq]; exact ⟨hi, hq⟩
  obtain ⟨a, c, r, k1, k2, k3, k4⟩ := Enc.upd p henc hu' hin hv
  have hlen := hv.len
  rcases h1.2 with ⟨hn, _⟩ | ⟨blk', cap, cur, hv', r1, r2, r3, r4, r5, r6⟩
  · rw [hn] at hβ; simp [blkOf] at hβ
  have hbb : blk' = blk := by rw [hv'] at hβ; simpa [blkOf] using hβ
  subst hbb
  have hcur : cur.toList = cs ++ cur.toList.drop (xs.length * ncell g) := by conv => lhs; rw [← List.take_append_drop (xs.length * ncell g) cur.toList, r6]
  have hcl : cs.length = xs.length * ncell g := h1.1
  have hol : offs (.arr xs.length g) p + vs.length + r.length = cs.length := by rw [k1, ← k2]; simp; omega
  have hsz : cs.length ≤ cur.size := by rw [hcl, r5]; exact Nat.mul_le_mul_right _ r3
  have hst := run_storeCells_at P blk' (offs (.arr 0 g) p) el vs 0 cur M.w r2 (by rw [offs_any (m := xs.length)]; omega) (fun u hu => hv.one u hu)
  simp only [Nat.add_zero] at hst
  have hcells : (cur.toList.take (offs (.arr 0 g) p) ++ vs ++ cur.toList.drop (offs (.arr 0 g) p + vs.length)) = (a ++ vs ++ r) ++ cur.toList.drop (xs.length * ncell g) := by
    rw [offs_any (m := xs.length), hcur, k1, ← k2, hlen, ← k3]
    have e1 : (a ++ c ++ r ++ cur.toList.drop (xs.length * ncell g)).take a.length = a := by rw [List.append_assoc, List.append_assoc, List.take_left' rfl]
    have e2 : (a ++ c ++ r ++ cur.toList.drop (xs.length * ncell g)).drop (a.length + c.length) = r ++ cur.toList.drop (xs.length * ncell g) := by rw [← List.length_append, List.append_assoc, List.drop_left' rfl]
    have e3 : (a ++ c ++ r ++ cur.toList.drop (xs.length * ncell g)).drop (xs.length * ncell g) = cur.toList.drop (xs.length * ncell g) := by
      rw [← k1]; rw [← hcl]; exact List.drop_left' rfl
    rw [e1, e2, e3]; simp
  rw [hcells] at hst
  have hk : Keeps M.S M.S M.w (M.w.setRow blk' (a ++ vs ++ r ++ cur.toList.drop (xs.length * ncell g)).toArray) := fun y o hs => ⟨hs, cell_of_heap (setRow_other _ _ _ _ (fun hy => by
    subst hy
    have := ((h6 _ hβ).2 o hs).1
    cases this))⟩
  have hnl : (a ++ vs ++ r).length = xs.length * ncell g := by rw [← hcl, k1]; simp; omega
  have hB : RelB R (M.w.setRow blk' (a ++ vs ++ r ++ cur.toList.drop (xs.length * ncell g)).toArray) M.S (M.β b) (.row el g z false) := by
    have hzl' : List.length z = xs.length := hzl
    refine ⟨a ++ vs ++ r, ⟨by rw [hzl', hnl], .inr ⟨blk', cap, _, by rw [hv', hzl'], r1, setRow_heap _ _ _ _ _ _ r2, by rw [hzl']; exact r3, r4, ?_, ?_⟩⟩, encL_mono (fun _ _ hh => hh.keeps hk) k4.2, by rw [hzl']; exact h3, by rw [hzl']; exact h4, h5, fun y hy => ⟨(h6 y hy).1, fun o ho => by rw [hzl']; exact (h6 y hy).2 o ho⟩⟩
    · have e1 : cur.toList.length = cap * ncell g := by rw [← r5]; rfl
      have e2 : (a ++ vs ++ r ++ cur.toList.drop (xs.length * ncell g)).length = cap * ncell g := by
        rw [List.length_append, hnl, List.length_drop, e1]
        have := Nat.mul_le_mul_right (ncell g) r3
        omega
      exact e2
    · rw [hzl', ← hnl]
      exact List.take_left' rfl
  have J := I.setBox (w' := M.w.setRow blk' (a ++ vs ++ r ++ cur.toList.drop (xs.length * ncell g)).toArray) (S' := M.S) (v' := M.β b) b (.row el g z false) true rfl rfl rfl (by rw [setRow_size]; exact Nat.le_refl _)
    (fun k _ hne => setRow_other _ _ _ _ (fun hk => hne d _ hb (by rw [hβ, hk]))) hk (fun _ _ h => .inl h) hB (fun k h => .inr ⟨⟨d, _, hb⟩, h⟩)
  have hbeta : (fun c => if c = b then M.β b else M.β c) = M.β := by funext c; split; (rename_i hcb; rw [hcb]); rfl
  rw [hbeta] at J
  refine ⟨_, hst, J, hk, fun c' dc Bc hc _ => ?_⟩
  simp only [lk_st]
  by_cases hcb : c' = b
  · subst hcb
    rw [hb] at hc
    simp only [Option.some.injEq, Prod.mk.injEq] at hc
    obtain ⟨rfl, rfl⟩ := hc
    refine ⟨true, .row el g z false, by simp, trivial, ⟨fun g' p hp => ?_, fun h => h⟩⟩
    obtain ⟨e1, i', q', e2, e3, e4⟩ := hp
    exact ⟨e1, i', q', e2, by rw [show List.length z = xs.length from hzl]; exact e3, e4⟩
  · exact ⟨dc, Bc, by simp only [hcb, if_false]; exact hc, trivial, Box.le_refl _⟩

section
variable {P : Program} (w : World)
theorem run_append_nothing (t ty e : TypeId) (i : TypeInfo) (size : Nat) (ht : P.underlying t = some (.slice e)) (hi : P.info? e = some i)
    (base : Nat) (v : Value) (n c : Nat) (xs : List Value) (hown : w.ownsRow base e size v n xs) :
    (Builtin.append_ #[t, t] ty #[v, .slice none 0 c]).run P w = .ok v w := by
  rcases hown.2 with ⟨rfl, rfl⟩ | ⟨g, cap, cur, rfl, _, _, hnc, _⟩
  · simp [Builtin.append_, run_underlying ht, sizeOf, typeInfo, hi, Builtin.lenOf, Builtin.firstCells]
  · simp [Builtin.append_, run_underlying ht, sizeOf, typeInfo, hi, Builtin.lenOf, Builtin.firstCells, hnc, storeCells]
end

theorem encL_append {α : Type} {f : α → List Value → Prop} : ∀ {xs ys : List α} {cs ds : List Value}, encL f xs cs → encL f ys ds → encL f (xs ++ ys) (cs ++ ds)
  | [], _, _, _, h, k => by rw [show _ = [] from h]; exact k
  | _ :: _, _, _, _, ⟨c, d, e, a, b⟩, k => ⟨c, d ++ _, by rw [e, List.append_assoc], a, encL_append b k⟩
theorem InvM.append {R : Ref} {P : Program} {M : Mem} (I : InvM R M) {t ty e : TypeId} {ti : TypeInfo} {z : Value} {g : GTy} (ht : P.underlying t = some (.slice e)) (hi : P.info? e = some ti) (hz : ti.zero = some z) (hs : ti.size = ncell g)
    (hzs : z.cells.size = ncell g) (h0 : 0 < ncell g) (hlb : lbytes g ≤ ti.bytes)
    {v : Value} {xs : List (den g)} {cs : List Value} (hown : M.w.ownsRow 0 e (ncell g) v xs.length cs) (henc : encL (Enc M.w M.S g) xs cs)
    (b : Nat) (hv : (v = .slice none 0 0 ∧ ∀ d B, lk b M.bs = some (d, B) → M.β b = v) ∨ (∃ d fz, lk b M.bs = some (d, .row e g xs fz) ∧ M.β b = v)) (fz' : Bool) (hfz : ∀ d fz, lk b M.bs = some (d, .row e g xs fz) → fz' = fz)
    {ad : Option Addr} {c : Nat} {ys : List (den g)} {ds : List Value} (hys : encL (Enc M.w M.S g) ys ds) (hsrc : ys = [] ∨ ∃ a, ad = some a ∧ ∀ (j : Nat) u, ds[j]? = some u → M.w.cell? (a.add j) = some u)
    (hbytes : (xs.length + ys.length) * ti.bytes ≤ maxRow) (hlen : xs.length + ys.length ≤ maxRow) :
    ∃ v' w', (Builtin.append_ #[t, t] ty #[v, .slice ad ys.length c]).run P M.w = .ok v' w' ∧
      InvM R { w := w', S := M.S, β := fun k => if k = b then v' else M.β k, bs := st' b (true, .row e g (xs ++ ys) fz') M.bs } ∧
      Step M { w := w', S := M.S, β := fun k => if k = b then v' else M.β k, bs := st' b (true, .row e g (xs ++ ys) fz') M.bs } (fun k => k = b) := by
  have hdl : ds.length = ys.length * ncell g := encL_len (fun _ _ hh => hh.len) hys
  have hmax : xs.length + ys.length ≤ maxLen := by simp only [maxRow] at hlen; simp only [maxLen]; omega
  -- either all that was there is aas it was, and the row lies in a new block; or it lies where it lay, and its head is aas it was
  let Two (v' : Value) (w' : World) : Prop := ((∀ k, v'.ownBlock = some k → M.w.heap.size ≤ k) ∧ Grows M.w w') ∨
    (v'.ownBlock = v.ownBlock ∧ ∀ k o, v.ownBlock = some k → o < xs.length * ncell g → w'.cell? ⟨k, o, none⟩ = M.w.cell? ⟨k, o, none⟩)
  have key : ∀ a, (∀ (j : Nat) u, ds[j]? = some u → M.w.cell? (a.add j) = some u) → ∃ v' w', (Builtin.append_ #[t, t] ty #[v, .slice (some a) ys.length c]).run P M.w = .ok v' w' ∧ w'.ownsRow 0 e (ncell g) v' (xs.length + ys.length) (cs ++ ds) ∧ M.w.grownBy w' v.ownBlock ∧ Two v' w' := by
    intro a ha
    have h1 : ∀ u ∈ ds, u.oneCell' = true := fun u hu => encL_one (fun _ _ hh => hh.one) hys u hu
    obtain ⟨v', w', r1, r2, r3, r4⟩ := run_append_own (P := P) M.w 0 t ty e ti z (ncell g) ti.bytes ht hi hz hs rfl hzs h0 v xs.length cs hown a ys.length c ds hdl ha h1 hmax hbytes (Nat.zero_le _)
    refine ⟨v', w', r1, r2, r3, ?_⟩
    rcases hown.2 with ⟨hn, hz0⟩ | ⟨blk, cap, cur, hvv, q1, q2, q3, q4, q5, q6⟩
    · have hcs : cs = [] := List.eq_nil_of_length_eq_zero (by rw [hown.1, hz0]; simp)
      have hown' : M.w.ownsRow M.w.heap.size e (ncell g) v xs.length cs := by rw [hn, hz0, hcs]; exact World.ownsRow_nil _ _ _ _
      obtain ⟨v2, w2, s1, s2, _⟩ := run_append_own (P := P) M.w M.w.heap.size t ty e ti z (ncell g) ti.bytes ht hi hz hs rfl hzs h0 v xs.length cs hown' a ys.length c ds hdl ha h1 hmax hbytes (Nat.le_refl _)
      rw [r1] at s1
      injection s1 with e1 e2
      subst e1; subst e2
      exact .inl ⟨fun k hk => (s2.lt k hk).1, ⟨r3.os, r3.tape, r3.output, r3.size, fun k hk => r3.block k hk (by rw [hn]; simp [Value.ownBlock])⟩⟩
    · subst hvv
      by_cases hroom : xs.length + ys.length ≤ cap
      · have hfit : xs.length * ti.size + ds.length ≤ cur.size := by rw [hdl, q5, hs, ← Nat.add_mul]; exact Nat.mul_le_mul_right _ hroom
        have s1 := run_append_room (P := P) M.w t ty e ti ht hi blk xs.length cap cur q2 a ys.length c ds (by rw [hs]; exact hdl) ha h1 hroom hfit
        rw [r1] at s1
        injection s1 with e1 e2
        subst e1
        refine .inr ⟨rfl, fun k o hk ho => ?_⟩
        have hkb : blk = k := by simpa [Value.ownBlock] using hk
        subst hkb
        rw [cell_of_row M.w blk o cur e (0, 0) q2, e2, cell_of_row _ blk o _ e (0, 0) (setRow_heap M.w blk cur _ e _ q2)]
        have hlen1 : xs.length * ncell g ≤ cur.toList.length := by
          have := Nat.mul_le_mul_right (ncell g) q3
          rw [← q5] at this
          exact this
        simp only [hs, List.getElem?_toArray, List.append_assoc]
        rw [List.getElem?_append_left (by rw [List.length_take]; omega), List.getElem?_take, if_pos ho]
        simp
      · have holds : ∀ (j : Nat) u, cs[j]? = some u → M.w.cell? ((⟨blk, 0, none⟩ : Addr).add j) = some u := hown.cells (g := blk) rfl
        have s1 := run_append_grow (P := P) M.w t ty e ti z ht hi hz ⟨blk, 0, none⟩ xs.length cap cs (by rw [hs]; exact hown.1) holds a ys.length c ds (by rw [hs]; exact hdl) ha (by omega) (by simp only [maxLen] at hmax; omega) (growslice_fits (by omega) hbytes)
        rw [r1] at s1
        injection s1 with e1 e2
        subst e1
        refine .inl ⟨fun k hk => ?_, by rw [e2]; exact (Grows.drew _).trans (Grows.alloc _ _)⟩
        simp [Value.ownBlock] at hk
        omega
  have hrun : ∃ v' w', (Builtin.append_ #[t, t] ty #[v, .slice ad ys.length c]).run P M.w = .ok v' w' ∧ w'.ownsRow 0 e (ncell g) v' (xs.length + ys.length) (cs ++ ds) ∧ M.w.grownBy w' v.ownBlock ∧ Two v' w' := by
    rcases hsrc with hy | ⟨a, ha, hcell⟩
    · subst hy
      have hd0 : ds = [] := hys
      subst hd0
      cases ad with
      | none => exact ⟨v, M.w, run_append_nothing (P := P) M.w t ty e ti (ncell g) ht hi 0 v xs.length c cs hown, by simpa using hown, ⟨rfl, rfl, rfl, Nat.le_refl _, fun _ _ _ => rfl⟩, .inr ⟨rfl, fun _ _ _ _ => rfl⟩⟩
      | some a => exact key a (fun j u hu => by simp at hu)
    · subst ha; exact key a hcell
  obtain ⟨v', w', r1, r2, r3, r4⟩ := hrun
  have hob : ∀ (u : Value) (n : Nat) (zs : List Value) (W : World), W.ownsRow 0 e (ncell g) u n zs → ∀ k, blkOf u = some k ↔ u.ownBlock = some k := by
    intro u n zs W hu k
    rcases hu.2 with ⟨hn, _⟩ | ⟨blk, cap, cur, hvv, _⟩
    · rw [hn]; simp [blkOf, Value.ownBlock]
    · rw [hvv]; simp [blkOf, Value.ownBlock]
  have hvb := hob v _ _ _ hown
  have hvb' := hob v' _ _ _ r2
  -- what was stable in the row's block lies in its head, and it was frozen
  have hS : ∀ k o, v.ownBlock = some k → M.S k o → fz' = true ∧ o < xs.length * ncell g := by
    intro k o hk hs'
    rcases hv with ⟨hn, _⟩ | ⟨d, fz, hb, hβ⟩
    · rw [hn] at hk; simp [Value.ownBlock] at hk
    · obtain ⟨_, _, _, _, _, _, h6⟩ := I.boxes b d _ hb
      rw [hfz d fz hb]
      exact (h6 k (by rw [hβ]; exact (hvb k).2 hk)).2 o hs'
  have hkeep : Keeps M.S M.S M.w w' := by
    intro k o hs'
    refine ⟨hs', ?_⟩
    rcases r4 with ⟨_, hg⟩ | ⟨_, hh⟩
    · exact cell_of_heap (hg.block k (I.here k o hs').2)
    · by_cases hk : v.ownBlock = some k
      · exact hh k o hk (hS k o hk hs').2
      · exact cell_of_heap (r3.block k (I.here k o hs').2 (fun he => hk he.symm))
  have hnewv : ∀ k, v.ownBlock = some k → R.new k := by
    intro k hk
    rcases hv with ⟨hn, _⟩ | ⟨d, fz, hb, hβ⟩
    · rw [hn] at hk; simp [Value.ownBlock] at hk
    · exact (I.boxes b d _ hb).new k (by rw [hβ]; exact (hvb k).2 hk)
  have hB : RelB R w' M.S v' (.row e g (xs ++ ys) fz') := by
    refine ⟨cs ++ ds, by simpa using r2, encL_append (encL_mono (fun _ _ hh => hh.keeps hkeep) henc) (encL_mono (fun _ _ hh => hh.keeps hkeep) hys), ?_, by simpa using hlen, h0, fun blk hblk => ?_⟩
    · rw [List.length_append]
      exact Nat.le_trans (Nat.mul_le_mul_left _ hlb) hbytes
    · have hblk' := (hvb' blk).1 hblk
      rcases r4 with ⟨hnew, hg⟩ | ⟨hsame, hh⟩
      · have := hnew blk hblk'
        exact ⟨.inl (Nat.le_trans I.size this), fun o ho => absurd (I.here _ o ho).2 (Nat.not_lt.2 this)⟩
      · rw [hsame] at hblk'
        refine ⟨hnewv blk hblk', fun o ho => ?_⟩
        have := hS blk o hblk' ho
        refine ⟨this.1, Nat.lt_of_lt_of_le this.2 (Nat.mul_le_mul_right _ (by simp))⟩
  refine ⟨v', w', r1, I.setBox b _ true r3.os r3.tape r3.output r3.size ?_ hkeep (fun _ _ h => .inl h) hB ?_, hkeep, fun c' dc Bc hc hcb => ?_⟩
  · intro k hk hne
    refine r3.block k hk (fun he => ?_)
    rcases hv with ⟨hn, _⟩ | ⟨d, fz, hb, hβ⟩
    · rw [hn] at he; simp [Value.ownBlock] at he
    · exact hne d _ hb (by rw [hβ]; exact (hvb k).2 he.symm)
  · intro k hk
    have hk' := (hvb' k).1 hk
    rcases r4 with ⟨hnew, hg⟩ | ⟨hsame, hh⟩
    · exact .inl (hnew k hk')
    · rw [hsame] at hk'
      rcases hv with ⟨hn, _⟩ | ⟨d, fz, hb, hβ⟩
      · rw [hn] at hk'; simp [Value.ownBlock] at hk'
      · exact .inr ⟨⟨d, _, hb⟩, by rw [hβ]; exact (hvb k).2 hk'⟩
  · exact ⟨dc, Bc, by simp only [lk_st]; simp [show c' ≠ b from hcb, hc], by simp [show c' ≠ b from hcb], Box.le_refl Bc⟩
end Go.Ev
/- Values that are kept. -/
set_option linter.unusedVariables false
namespace Go.Ev

def applyB : List (Nat × Bool × Box) → Bxs → Bxs
  | [], bs => bs
  | x :: l, bs => applyB l (st' x.1 (true, x.2.2) bs)

theorem applyB_append : ∀ (a b : List (Nat × Bool × Box)) (bs : Bxs), applyB (a ++ b) bs = applyB b (applyB a bs)
  | [], _, _ => rfl
  | x :: a, b, bs => applyB_append a b _

def killed (ws : List (Nat × Bool × Box)) (b : Nat) : Prop := ∃ B, (b, true, B) ∈ ws

def Box.fz : Box → Box
  | .var g x => .var g x
  | .row e g xs _ => .row e g xs true
  | .iter y p => .iter y p

def argOf (bs : Bxs) (v : AV) : Arg := (v, match boxOf v with | some b => (lk b bs).map (·.2) | none => none)
structure Froze (R : Ref) (M M' : Mem) : Prop where
  w : M'.w = M.w
  β : M'.β = M.β
  inv : InvM R M'
  step : Step M M' (fun _ => False)
  same : ∀ b d B, lk b M.bs = some (d, B) → ∃ d' B', lk b M'.bs = some (d', B') ∧ B.fz = B'.fz

theorem Froze.refl {R : Ref} {M : Mem} (I : InvM R M) : Froze R M M := ⟨rfl, rfl, I, Step.refl _ _, fun b d B h => ⟨d, B, h, rfl⟩⟩
theorem Froze.trans {R : Ref} {M M' M'' : Mem} (h : Froze R M M') (k : Froze R M' M'') : Froze R M M'' :=
  ⟨k.w.trans h.w, k.β.trans h.β, k.inv, (h.step.trans k.step).mono (fun _ h => h.elim id id), fun b d B hb => by
    obtain ⟨d1, B1, h1, h2⟩ := h.same b d B hb
    obtain ⟨d2, B2, k1, k2⟩ := k.same b d1 B1 h1
    exact ⟨d2, B2, k1, h2.trans k2⟩⟩
structure ArgR (M : Mem) (a : Arg) (u : Value) : Prop where
  rel : RelV M a.1 u
  box : ∀ b B, boxOf a.1 = some b → a.2 = some B → ∃ d B', lk b M.bs = some (d, B') ∧ B.fz = B'.fz

theorem ArgR.of {M : Mem} {v : AV} {u : Value} (h : RelV M v u) : ArgR M (argOf M.bs v) u := ⟨h, fun b B hb hB => by
  simp only [argOf] at hb hB
  rw [hb] at hB
  cases hl : lk b M.bs with
  | none => simp [hl] at hB
  | some x =>
    simp [hl] at hB
    exact ⟨x.1, x.2, rfl, by rw [hB]⟩⟩

theorem ArgR.froze {R : Ref} {M M' : Mem} (h : Froze R M M') {a : Arg} {u : Value} (k : ArgR M a u) : ArgR M' a u :=
  ⟨k.rel.steps h.step, fun b B hb hB => by
    obtain ⟨d, B', h1, h2⟩ := k.box b B hb hB
    obtain ⟨d', B'', h3, h4⟩ := h.same b d B' h1
    exact ⟨d', B'', h3, h2.trans h4⟩⟩

theorem asVal_sound {M : Mem} {v : AV} {u : Value} {g : GTy} {x : den g} (h : RelV M v u) (ha : asVal g v = some x) : ∃ cs, Enc M.w M.S g x cs ∧ u = toVal g cs := by
  unfold asVal at ha
  split at ha
  · rename_i h' x'
    split at ha
    · rename_i e _
      subst e
      simp only [Option.some.injEq] at ha
      subst ha
      simpa [RelV] using h
    · cases ha
  · split at ha
    · rename_i a
      simp only [Option.some.injEq] at ha
      subst ha
      simp only [RelV] at h
      subst h
      exact ⟨[.slice none 0 0], ⟨none, 0, rfl, Nat.le_refl _, by simp, Nat.zero_le _, .inl rfl⟩, rfl⟩
    · cases ha
  · cases ha

theorem take_sound {R : Ref} {M : Mem} (I : InvM R M) {a : Arg} {u : Value} {g : GTy} {x : den g} {ws : List (Nat × Bool × Box)} (h : ArgR M a u) (ht : take g a = some (x, ws)) :
    (∀ b, ¬ killed ws b) ∧ ∃ S', Froze R M { M with S := S', bs := applyB ws M.bs } ∧ ∃ cs, Enc M.w S' g x cs ∧ u = toVal g cs := by
  unfold take at ht
  split at ht
  · rename_i b t hh xs f
    split at ht
    · rename_i e _
      subst e
      simp only [Option.some.injEq, Prod.mk.injEq] at ht
      obtain ⟨rfl, rfl⟩ := ht
      obtain ⟨d, B', h1, h2⟩ := h.box b _ rfl rfl
      have hB' : ∃ f', B' = .row t hh xs f' := by
        cases B' with
        | var _ _ => simp [Box.fz] at h2
        | iter _ _ => simp [Box.fz] at h2
        | row t' g' xs' f' =>
          simp only [Box.fz, Box.row.injEq] at h2
          obtain ⟨rfl, rfl, h3, _⟩ := h2
          cases eq_of_heq h3
          exact ⟨f', rfl⟩
      obtain ⟨f', rfl⟩ := hB'
      obtain ⟨S', J, s, en⟩ := I.freeze h1
      refine ⟨fun b' hk => by obtain ⟨B, hB⟩ := hk; simp at hB, S', ⟨rfl, rfl, J, s, fun c dc Bc hc => ?_⟩, [M.β b], en, ?_⟩
      · simp only [applyB, lk_st]
        by_cases hcb : c = b
        · subst hcb
          rw [h1] at hc
          simp only [Option.some.injEq, Prod.mk.injEq] at hc
          obtain ⟨rfl, rfl⟩ := hc
          exact ⟨true, .row t hh xs true, by simp, rfl⟩
        · exact ⟨dc, Bc, by simp only [hcb, if_false]; exact hc, rfl⟩
      · have := h.rel
        simp only [RelV] at this
        exact this.2
    · cases ht
  · rename_i v b' hne
    split at ht
    · rename_i x' hx
      simp only [Option.some.injEq, Prod.mk.injEq] at ht
      obtain ⟨rfl, rfl⟩ := ht
      obtain ⟨cs, h1, h2⟩ := asVal_sound h.rel hx
      exact ⟨fun b' hk => by obtain ⟨B, hB⟩ := hk; simp at hB, M.S, Froze.refl I, cs, h1, h2⟩
    · cases ht

theorem killed_append {a b : List (Nat × Bool × Box)} {c : Nat} : killed (a ++ b) c ↔ killed a c ∨ killed b c := by
  constructor
  · rintro ⟨B, hB⟩
    rw [List.mem_append] at hB
    exact hB.imp (fun h => ⟨B, h⟩) (fun h => ⟨B, h⟩)
  · rintro (⟨B, hB⟩ | ⟨B, hB⟩)
    · exact ⟨B, List.mem_append.2 (.inl hB)⟩
    · exact ⟨B, List.mem_append.2 (.inr hB)⟩
def EncD (w : World) (S : Stab) : (gs : List GTy) → dens gs → List Value → Prop
  | [], _, us => us = []
  | [g], x, us => ∃ cs, Enc w S g x cs ∧ us = [toVal g cs]
  | g :: h :: gs, x, us => ∃ cs us', Enc w S g x.1 cs ∧ us = toVal g cs :: us' ∧ EncD w S (h :: gs) x.2 us'

theorem EncD.keeps {S S' : Stab} {w w' : World} (h : Keeps S S' w w') : ∀ {gs : List GTy} {x : dens gs} {us : List Value}, EncD w S gs x us → EncD w' S' gs x us
  | [], _, _, e => e
  | [_], _, _, ⟨cs, h1, h2⟩ => ⟨cs, h1.keeps h, h2⟩
  | _ :: _ :: _, _, _, ⟨cs, us', h1, h2, h3⟩ => ⟨cs, us', h1.keeps h, h2, EncD.keeps h h3⟩

def ArgsR (M : Mem) : List Arg → List Value → Prop
  | [], [] => True
  | a :: l, u :: us => ArgR M a u ∧ ArgsR M l us
  | _, _ => False

theorem ArgsR.froze {R : Ref} {M M' : Mem} (h : Froze R M M') : ∀ {l : List Arg} {us : List Value}, ArgsR M l us → ArgsR M' l us
  | [], [], _ => trivial
  | _ :: _, _ :: _, k => ⟨k.1.froze h, ArgsR.froze h k.2⟩
  | [], _ :: _, k => k.elim
  | _ :: _, [], k => k.elim

theorem ArgsR.of {M : Mem} : ∀ {l : List AV} {us : List Value}, RelL M l us → ArgsR M (l.map (argOf M.bs)) us
  | [], [], _ => trivial
  | _ :: _, _ :: _, k => by simp only [RelL] at k; exact ⟨ArgR.of k.1, ArgsR.of k.2⟩
  | [], _ :: _, k => by simp [RelL] at k
  | _ :: _, [], k => by simp [RelL] at k

theorem takes_sound {R : Ref} : ∀ {gs : List GTy} {M : Mem} {aas : List Arg} {us : List Value} {x : dens gs} {ws : List (Nat × Bool × Box)}, InvM R M → ArgsR M aas us → takes gs aas = some (x, ws) →
    (∀ b, ¬ killed ws b) ∧ ∃ S', Froze R M { M with S := S', bs := applyB ws M.bs } ∧ EncD M.w S' gs x us
  | [], M, [], us, x, ws, I, h, ht => by
    simp only [takes, Option.some.injEq, Prod.mk.injEq] at ht
    obtain ⟨_, rfl⟩ := ht
    refine ⟨fun b hk => by obtain ⟨B, hB⟩ := hk; simp at hB, M.S, Froze.refl I, ?_⟩
    cases us with
    | nil => rfl
    | cons _ _ => exact h.elim
  | [g], M, [a], us, x, ws, I, h, ht => by
    match us, h with
    | [u], h =>
      obtain ⟨h1, S', h2, cs, h3, h4⟩ := take_sound I h.1 (by simpa [takes] using ht)
      exact ⟨h1, S', h2, cs, h3, by rw [h4]⟩
  | g :: h :: gs, M, a :: aas, us, x, ws, I, hr, ht => by
    match us, hr with
    | u :: us, hr =>
      simp only [takes] at ht
      split at ht
      · rename_i x1 w1 x2 w2 e1 e2
        simp only [Option.some.injEq, Prod.mk.injEq] at ht
        obtain ⟨rfl, rfl⟩ := ht
        obtain ⟨h1, S1, f1, cs, h3, h4⟩ := take_sound I hr.1 e1
        obtain ⟨k1, S2, f2, k3⟩ := takes_sound f1.inv (hr.2.froze f1) e2
        refine ⟨fun b hk => (killed_append.1 hk).elim (h1 b) (k1 b), S2, ?_, cs, us, ?_, by rw [h4], k3⟩
        · rw [applyB_append]
          exact f1.trans f2
        · exact h3.keeps f2.step.keeps
      · cases ht
  | [], _, _ :: _, _, _, _, _, _, ht => by simp [takes] at ht
  | [_], _, [], _, _, _, _, _, ht => by simp [takes] at ht
  | [_], _, _ :: _ :: _, _, _, _, _, _, ht => by simp [takes] at ht
  | _ :: _ :: _, _, [], _, _, _, _, _, ht => by simp [takes] at ht

/-! Building -/

theorem foldl_set : ∀ (vs : List Value) (off k : Nat) (cs : Array Value), off + k + vs.length ≤ cs.size →
    ((vs.zipIdx k).foldl (fun (cs : Array Value) (x : Value × Nat) => cs.setIfInBounds (off + x.2) x.1) cs).toList = cs.toList.take (off + k) ++ vs ++ cs.toList.drop (off + k + vs.length)
  | [], off, k, cs, _ => by simp
  | v :: vs, off, k, cs, h => by
    simp only [List.length_cons] at h
    rw [List.zipIdx_cons, List.foldl_cons, foldl_set vs off (k + 1) _ (by simp; omega)]
    have hlt : off + k < cs.toList.length := by simp; omega
    simp only [Array.toList_setIfInBounds]
    rw [show off + (k + 1) = off + k + 1 by omega, List.take_succ_eq_append_getElem (by simpa using hlt), List.getElem_set_self, List.take_set_of_le (Nat.le_refl _), List.drop_set_of_lt (by omega)]
    simp only [List.length_cons, List.append_assoc, List.singleton_append]
    congr 2
    rw [show off + k + 1 + vs.length = off + k + (vs.length + 1) by omega]

theorem fill_step {place : Nat → Option (Nat × Nat)} {i off size : Nat} {a c r : List Value} {vs : List Value} {v : Value} {rest : List (Nat × Value)} (hp : place i = some (off, size)) (hv : v.cells.toList = vs) (hs : vs.length = size) (ha : a.length = off) (hc : c.length = size) :
    Instr.fill place (a ++ c ++ r).toArray ((i, v) :: rest) = Instr.fill place (a ++ vs ++ r).toArray rest := by
  have hsz : v.cells.size = size := by rw [← hs, ← hv]; simp
  simp only [Instr.fill, hp]
  have h1 : (decide (v.cells.size ≠ size) || decide (off + v.cells.size > (a ++ c ++ r).toArray.size)) = false := by
    simp [hsz, ← ha, ← hc]
  rw [h1]
  simp only [Bool.false_eq_true, if_false]
  congr 1
  apply Array.ext'
  rw [← Array.foldl_toList, Array.toList_zipIdx, hv]
  have := foldl_set vs off 0 (a ++ c ++ r).toArray (by simp; omega)
  simp only [Nat.add_zero] at this
  rw [this]
  simp only [← ha]
  rw [List.append_assoc a c r, List.take_left' rfl, ← List.append_assoc, ← List.length_append, show (a ++ vs).length = (a ++ c).length from by simp; omega, List.drop_left' rfl]

theorem parts_sound {R : Ref} {g : GTy} {path : Nat → List PStep} {place : Nat → Option (Nat × Nat)} {ok : Nat → Prop} (hp : ∀ (i : Nat) h, ok i → pathTy g (path i) = some h → place i = some (offs g (path i), ncell h)) :
    ∀ {l : List (Nat × Arg)} {M : Mem} {us : List Value} {x z : den g} {cs : List Value} {ws : List (Nat × Bool × Box)}, InvM R M → ArgsR M (l.map (·.2)) us → (∀ y ∈ l, ok y.1 ∧ inB g (path y.1)) → Enc M.w M.S g x cs → parts g path l x = some (z, ws) →
    (∀ b, ¬ killed ws b) ∧ ∃ S', Froze R M { M with S := S', bs := applyB ws M.bs } ∧ ∃ ds, Enc M.w S' g z ds ∧ Instr.fill place cs.toArray ((l.map (·.1)).zip us) = some ds.toArray
  | [], M, us, x, z, cs, ws, I, h, hb, he, ht => by
    simp only [parts, Option.some.injEq, Prod.mk.injEq] at ht
    obtain ⟨rfl, rfl⟩ := ht
    exact ⟨fun b hk => by obtain ⟨B, hB⟩ := hk; simp at hB, M.S, Froze.refl I, cs, he, by simp [Instr.fill]⟩
  | (i, a) :: l, M, us, x, z, cs, ws, I, h, hb, he, ht => by
    match us, h with
    | u :: us, h =>
      simp only [parts] at ht
      split at ht
      · cases ht
      rename_i h' hh'
      split at ht
      · cases ht
      rename_i v w1 e1
      split at ht
      · cases ht
      rename_i y e2
      split at ht
      · cases ht
      rename_i z' w2 e3
      simp only [Option.some.injEq, Prod.mk.injEq] at ht
      obtain ⟨rfl, rfl⟩ := ht
      have hin := hb (i, a) (by simp)
      obtain ⟨h1, S1, f1, vs, h3, h4⟩ := take_sound I h.1 e1
      obtain ⟨p, c, r, k1, k2, k3, k4⟩ := Enc.upd (path i) (he.keeps f1.step.keeps) e2 hin.2 h3
      obtain ⟨q1, S2, f2, ds, q3, q4⟩ := parts_sound hp f1.inv (h.2.froze f1) (fun y hy => hb y (by simp [hy])) k4 e3
      refine ⟨fun b hk => (killed_append.1 hk).elim (h1 b) (q1 b), S2, ?_, ds, q3, ?_⟩
      · rw [applyB_append]; exact f1.trans f2
      · have hc := toVal_cells h3
        rw [← h4] at hc
        simp only [List.map_cons, List.zip_cons_cons]
        rw [k1, fill_step (hp i h' hin.1 hh') hc h3.len k2 k3]
        exact q4
end Go.Ev
/- Operations that only reckon. -/
set_option linter.unusedVariables false
namespace Go.Ev

def Yields (P : Program) (ρ : Operand → Value) (o : Oper) (w : World) (K : Value → World → Prop) : Prop :=
  match (execOp ρ o).run P w with
  | .ok (.value v) w' => K v w'
  | .ok .skip w' => K undef w'
  | .ok (.enter f args) w' => Calls P f args w' (fun e w'' => ∃ v, e = .returned v ∧ K v w'')
  | _ => False
def After (R : Ref) (M : Mem) (e : Eff) (v : Value) (w' : World) : Prop :=
  ∃ (S' : Stab) (β' : Nat → Value), InvM R { w := w', S := S', β := β', bs := applyB e.wr M.bs } ∧ Step M { w := w', S := S', β := β', bs := applyB e.wr M.bs } (killed e.wr) ∧
    RelV { w := w', S := S', β := β', bs := applyB e.wr M.bs } e.av v

def Eff.ok (e : Eff) : Prop := ∀ p, e.need = some p → p

theorem After.pure {R : Ref} {M : Mem} (I : InvM R M) {av : AV} {n : Option Prop} {v : Value} (h : RelV M av v) : After R M ⟨av, [], n⟩ v M.w :=
  ⟨M.S, M.β, I, Step.refl _ _, h⟩

theorem Yields.value {P : Program} {ρ : Operand → Value} {o : Oper} {w w' : World} {v : Value} {K : Value → World → Prop} (h : (execOp ρ o).run P w = .ok (.value v) w') (k : K v w') : Yields P ρ o w K := by
  unfold Yields; rw [h]; exact k
theorem Yields.skip {P : Program} {ρ : Operand → Value} {o : Oper} {w w' : World} {K : Value → World → Prop} (h : (execOp ρ o).run P w = .ok .skip w') (k : K undef w') : Yields P ρ o w K := by
  unfold Yields; rw [h]; exact k

theorem needIf_spec {p : Prop} [d : Decidable p] {known : Bool} {k : Option Prop → Option Eff} {e : Eff} (h : needIf p known k = some e) : (known = false ∧ k (some p) = some e) ∨ (p ∧ k none = some e) := by
  cases known with
  | false => exact .inl ⟨rfl, h⟩
  | true =>
    cases d with
    | isTrue hp => exact .inr ⟨hp, h⟩
    | isFalse hp => cases h

/-! Numbers -/

theorem wrap_has (k : IntKind) (n : Int) : k.has (k.wrap n) := by
  cases k <;> simp only [IntKind.has, IntKind.wrap, IntKind.min, IntKind.max, IntKind.signed, IntKind.bits] <;> (try simp) <;> (try split) <;> omega

theorem has_of_range {k : IntKind} {n : Int} (h : inRange k n = true) : k.has n := by
  simpa [inRange, IntKind.has] using h

theorem has_between {k : IntKind} {a n : Int} (h : k.has a) (h1 : 0 ≤ a → 0 ≤ n ∧ n ≤ a) (h2 : a < 0 → a ≤ n ∧ n ≤ 0) : k.has n := by
  have hz := has_zero k
  unfold IntKind.has at *
  rcases Int.lt_or_le a 0 with h3 | h3
  · have := h2 h3; omega
  · have := h1 h3; omega

theorem tmod_has {k : IntKind} {a b : Int} (h : k.has a) : k.has (a.tmod b) := by
  refine has_between h (fun h0 => ?_) (fun h0 => ?_)
  · match a, b, h0 with
    | .ofNat m, .ofNat n, _ => exact ⟨Int.natCast_nonneg _, Int.ofNat_le.2 (Nat.mod_le m n)⟩
    | .ofNat m, .negSucc n, _ => exact ⟨Int.natCast_nonneg _, Int.ofNat_le.2 (Nat.mod_le m (n + 1))⟩
    | .negSucc m, _, h0 => exact absurd h0 (by omega)
  · match a, b, h0 with
    | .negSucc m, .ofNat n, _ =>
      have := Nat.mod_le (m + 1) n
      show Int.negSucc m ≤ -((((m + 1) % n : Nat) : Int)) ∧ -((((m + 1) % n : Nat) : Int)) ≤ 0
      omega
    | .negSucc m, .negSucc n, _ =>
      have := Nat.mod_le (m + 1) (n + 1)
      show Int.negSucc m ≤ -((((m + 1) % (n + 1) : Nat) : Int)) ∧ -((((m + 1) % (n + 1) : Nat) : Int)) ≤ 0
      omega
    | .ofNat m, _, h0 => exact absurd h0 (by simp)

theorem fdiv_has {k : IntKind} {a : Int} {n : Nat} (h : k.has a) : k.has (a.fdiv (2 ^ n)) := by
  have hp : (0 : Int) < 2 ^ n := Int.pow_pos (by omega)
  rw [Int.fdiv_eq_ediv_of_nonneg _ (Int.le_of_lt hp)]
  refine has_between h (fun h0 => ⟨Int.ediv_nonneg h0 (Int.le_of_lt hp), Int.ediv_le_self _ h0⟩) (fun h0 => ⟨?_, ?_⟩)
  · refine Int.le_ediv_of_mul_le hp ?_
    have := Int.mul_le_mul_of_nonpos_left (Int.le_of_lt h0) (show (1 : Int) ≤ 2 ^ n by omega)
    simpa using this
  · have : a / 2 ^ n < 1 := Int.ediv_lt_of_lt_mul hp (by omega)
    omega

theorem bitsOp_has (op : BinOp) (k : IntKind) (a b : Int) : k.has (bitsOp op k a b) := by
  unfold bitsOp
  cases op <;> exact wrap_has _ _

theorem relInt {M : Mem} {k : IntKind} {n : Int} {u : Value} (h : RelV M (.val (.int k) n) u) : u = .int k n ∧ k.has n := by
  simp only [RelV, Enc] at h
  obtain ⟨cs, ⟨rfl, h2⟩, rfl⟩ := h
  exact ⟨rfl, h2⟩
theorem relBool {M : Mem} {b : Bool} {u : Value} (h : RelV M (.val .bool b) u) : u = .bool b := by
  simp only [RelV, Enc] at h
  obtain ⟨cs, rfl, rfl⟩ := h
  rfl
theorem relStr {M : Mem} {s : List UInt8} {u : Value} (h : RelV M (.val .str s) u) : u = .string ⟨⟨s⟩⟩ ∧ s.length ≤ maxStr := by
  simp only [RelV, Enc] at h
  obtain ⟨cs, ⟨rfl, h2⟩, rfl⟩ := h
  exact ⟨rfl, h2⟩
theorem mkInt {M : Mem} {k : IntKind} {n : Int} (h : k.has n) : RelV M (.val (.int k) n) (.int k n) := by
  simp only [RelV, Enc]; exact ⟨_, ⟨rfl, h⟩, rfl⟩
theorem mkBool {M : Mem} {b : Bool} : RelV M (.val .bool b) (.bool b) := by
  simp only [RelV, Enc]; exact ⟨_, rfl, rfl⟩
theorem mkStr {M : Mem} {s : List UInt8} (h : s.length ≤ maxStr) : RelV M (.val .str s) (.string ⟨⟨s⟩⟩) := by
  simp only [RelV, Enc]; exact ⟨_, ⟨rfl, h⟩, rfl⟩

theorem intBin_sound {P : Program} {M : Mem} {op : BinOp} {k : IntKind} {a b : Int} {known : Bool} {e : Eff} (ha : k.has a) (hb : k.has b) (h : intBin op k a b known = some e) (hn : e.ok) (hs : op ≠ .shl ∧ op ≠ .shr) (t : TypeId) :
    ∃ v, (binOp op t (.int k a) (.int k b)).run P M.w = .ok v M.w ∧ e.wr = [] ∧ RelV M e.av v := by
  cases op <;> simp only [intBin, v0, Option.some.injEq, reduceCtorEq] at h
  case add => subst h; exact ⟨_, by simp [binOp, Op.intArith], rfl, mkInt (wrap_has _ _)⟩
  case sub => subst h; exact ⟨_, by simp [binOp, Op.intArith], rfl, mkInt (wrap_has _ _)⟩
  case mul => subst h; exact ⟨_, by simp [binOp, Op.intArith], rfl, mkInt (wrap_has _ _)⟩
  case quo =>
    have : b ≠ 0 ∧ e.wr = [] ∧ e.av = .val (.int k) (k.wrap (a.tdiv b)) := by
      rcases needIf_spec h with ⟨_, h⟩ | ⟨hp, h⟩
      · simp only [Option.some.injEq] at h; subst h; exact ⟨hn _ rfl, rfl, rfl⟩
      · simp only [Option.some.injEq] at h; subst h; exact ⟨hp, rfl, rfl⟩
    obtain ⟨h1, h2, h3⟩ := this
    exact ⟨.int k (k.wrap (a.tdiv b)), by simp [binOp, Op.intDiv, h1], h2, by rw [h3]; exact mkInt (wrap_has _ _)⟩
  case rem =>
    have : b ≠ 0 ∧ e.wr = [] ∧ e.av = .val (.int k) (a.tmod b) := by
      rcases needIf_spec h with ⟨_, h⟩ | ⟨hp, h⟩
      · simp only [Option.some.injEq] at h; subst h; exact ⟨hn _ rfl, rfl, rfl⟩
      · simp only [Option.some.injEq] at h; subst h; exact ⟨hp, rfl, rfl⟩
    obtain ⟨h1, h2, h3⟩ := this
    exact ⟨.int k (a.tmod b), by simp [binOp, Op.intDiv, h1], h2, by rw [h3]; exact mkInt (tmod_has ha)⟩
  case and => subst h; exact ⟨_, by simp only [binOp, Op.intBits, ne_eq, not_true_eq_false, if_false]; rfl, rfl, mkInt (bitsOp_has _ _ _ _)⟩
  case or => subst h; exact ⟨_, by simp only [binOp, Op.intBits, ne_eq, not_true_eq_false, if_false]; rfl, rfl, mkInt (bitsOp_has _ _ _ _)⟩
  case xor => subst h; exact ⟨_, by simp only [binOp, Op.intBits, ne_eq, not_true_eq_false, if_false]; rfl, rfl, mkInt (bitsOp_has _ _ _ _)⟩
  case andNot => subst h; exact ⟨_, by simp only [binOp, Op.intBits, ne_eq, not_true_eq_false, if_false]; rfl, rfl, mkInt (bitsOp_has _ _ _ _)⟩
  case eql => subst h; exact ⟨_, by simp only [binOp, Op.intCmp, ne_eq, not_true_eq_false, if_false, Sem.run_pure], rfl, mkBool⟩
  case neq => subst h; exact ⟨_, by simp only [binOp, Op.intCmp, ne_eq, not_true_eq_false, if_false, Sem.run_pure], rfl, mkBool⟩
  case lss => subst h; exact ⟨_, by simp only [binOp, Op.intCmp, ne_eq, not_true_eq_false, if_false, Sem.run_pure], rfl, mkBool⟩
  case leq => subst h; exact ⟨_, by simp only [binOp, Op.intCmp, ne_eq, not_true_eq_false, if_false, Sem.run_pure], rfl, mkBool⟩
  case gtr => subst h; exact ⟨_, by simp only [binOp, Op.intCmp, ne_eq, not_true_eq_false, if_false, Sem.run_pure], rfl, mkBool⟩
  case geq => subst h; exact ⟨_, by simp only [binOp, Op.intCmp, ne_eq, not_true_eq_false, if_false, Sem.run_pure], rfl, mkBool⟩

theorem str_append (a b : List UInt8) : ((⟨⟨a⟩⟩ : ByteArray) ++ ⟨⟨b⟩⟩) = ⟨⟨a ++ b⟩⟩ := by
  apply ByteArray.ext
  rw [ByteArray.data_append]
  simp

theorem strBin_sound {P : Program} {M : Mem} {op : BinOp} {a b : List UInt8} {e : Eff} (ha : a.length ≤ maxStr) (hb : b.length ≤ maxStr) (h : strBin op a b = some e) (hn : e.ok) (t : TypeId) :
    ∃ v, (binOp op t (.string ⟨⟨a⟩⟩) (.string ⟨⟨b⟩⟩)).run P M.w = .ok v M.w ∧ e.wr = [] ∧ RelV M e.av v := by
  have ta : (⟨⟨a⟩⟩ : ByteArray).toList = a := by rw [ByteArray.toList_eq]
  have tb : (⟨⟨b⟩⟩ : ByteArray).toList = b := by rw [ByteArray.toList_eq]
  cases op <;> simp only [strBin, v0, Option.some.injEq, reduceCtorEq] at h
  case add =>
    subst h
    have hle : a.length + b.length ≤ maxStr := hn _ rfl
    refine ⟨.string ⟨⟨a ++ b⟩⟩, ?_, rfl, mkStr (by simpa using hle)⟩
    have : ¬ (((a.length + b.length : Nat) : Int) > IntKind.i64.max) := by
      simp only [maxStr] at hle
      have : IntKind.i64.max = 9223372036854775807 := by decide
      omega
    simp only [binOp, Op.stringOp]
    rw [show (⟨⟨a⟩⟩ : ByteArray).size = a.length from rfl, show (⟨⟨b⟩⟩ : ByteArray).size = b.length from rfl, if_neg this, str_append]
    rfl
  all_goals (subst h; exact ⟨_, by simp only [binOp, Op.stringOp, ta, tb]; rfl, rfl, mkBool⟩)
end Go.Ev
