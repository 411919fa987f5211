/- The typed evaluator: types, abstract values, states, one operation. Plain definitions; the proof that it tells what the machine does stands in the texts behind this one. -/
import GoSem.Claims
namespace Go.Ev

/-- The types that the evaluator knows. A struct of n fields is the chain of its fields (one field: with 'unit' behind it). -/
inductive GTy where
  | bool
  | int (k : IntKind)
  | str
  | unit
  | prod (a b : GTy)
  | arr (n : Nat) (a : GTy)
  | sl (a : GTy)
  deriving Inhabited

def kindEq : (a b : IntKind) → Decidable (a = b)
  | .i8, .i8 => .isTrue rfl | .i16, .i16 => .isTrue rfl | .i32, .i32 => .isTrue rfl | .i64, .i64 => .isTrue rfl
  | .u8, .u8 => .isTrue rfl | .u16, .u16 => .isTrue rfl | .u32, .u32 => .isTrue rfl | .u64, .u64 => .isTrue rfl
  | .i8, .i16 | .i8, .i32 | .i8, .i64 | .i8, .u8 | .i8, .u16 | .i8, .u32 | .i8, .u64 => .isFalse nofun
  | .i16, .i8 | .i16, .i32 | .i16, .i64 | .i16, .u8 | .i16, .u16 | .i16, .u32 | .i16, .u64 => .isFalse nofun
  | .i32, .i8 | .i32, .i16 | .i32, .i64 | .i32, .u8 | .i32, .u16 | .i32, .u32 | .i32, .u64 => .isFalse nofun
  | .i64, .i8 | .i64, .i16 | .i64, .i32 | .i64, .u8 | .i64, .u16 | .i64, .u32 | .i64, .u64 => .isFalse nofun
  | .u8, .i8 | .u8, .i16 | .u8, .i32 | .u8, .i64 | .u8, .u16 | .u8, .u32 | .u8, .u64 => .isFalse nofun
  | .u16, .i8 | .u16, .i16 | .u16, .i32 | .u16, .i64 | .u16, .u8 | .u16, .u32 | .u16, .u64 => .isFalse nofun
  | .u32, .i8 | .u32, .i16 | .u32, .i32 | .u32, .i64 | .u32, .u8 | .u32, .u16 | .u32, .u64 => .isFalse nofun
  | .u64, .i8 | .u64, .i16 | .u64, .i32 | .u64, .i64 | .u64, .u8 | .u64, .u16 | .u64, .u32 => .isFalse nofun

def GTy.dec : (a b : GTy) → Decidable (a = b)
  | .bool, .bool => .isTrue rfl
  | .str, .str => .isTrue rfl
  | .unit, .unit => .isTrue rfl
  | .int k, .int k' => match kindEq k k' with
    | .isTrue h => .isTrue (h ▸ rfl)
    | .isFalse h => .isFalse (fun e => h (by injection e))
  | .prod a b, .prod c d => match GTy.dec a c, GTy.dec b d with
    | .isTrue h, .isTrue h' => .isTrue (h ▸ h' ▸ rfl)
    | .isFalse h, _ => .isFalse (fun e => h (by injection e))
    | _, .isFalse h => .isFalse (fun e => h (by injection e))
  | .arr n a, .arr m b => match Nat.decEq n m, GTy.dec a b with
    | .isTrue h, .isTrue h' => .isTrue (h ▸ h' ▸ rfl)
    | .isFalse h, _ => .isFalse (fun e => h (by injection e))
    | _, .isFalse h => .isFalse (fun e => h (by injection e))
  | .sl a, .sl b => match GTy.dec a b with
    | .isTrue h => .isTrue (h ▸ rfl)
    | .isFalse h => .isFalse (fun e => h (by injection e))
  | .bool, .str | .bool, .unit | .bool, .int _ | .bool, .prod .. | .bool, .arr .. | .bool, .sl _ => .isFalse nofun
  | .str, .bool | .str, .unit | .str, .int _ | .str, .prod .. | .str, .arr .. | .str, .sl _ => .isFalse nofun
  | .unit, .bool | .unit, .str | .unit, .int _ | .unit, .prod .. | .unit, .arr .. | .unit, .sl _ => .isFalse nofun
  | .int _, .bool | .int _, .str | .int _, .unit | .int _, .prod .. | .int _, .arr .. | .int _, .sl _ => .isFalse nofun
  | .prod .., .bool | .prod .., .str | .prod .., .unit | .prod .., .int _ | .prod .., .arr .. | .prod .., .sl _ => .isFalse nofun
  | .arr .., .bool | .arr .., .str | .arr .., .unit | .arr .., .int _ | .arr .., .prod .. | .arr .., .sl _ => .isFalse nofun
  | .sl _, .bool | .sl _, .str | .sl _, .unit | .sl _, .int _ | .sl _, .prod .. | .sl _, .arr .. => .isFalse nofun

/-- What a value of a type is. -/
@[reducible] def den : GTy → Type
  | .bool => Bool
  | .int _ => Int
  | .str => List UInt8
  | .unit => Unit
  | .prod a b => den a × den b
  | .arr _ a => List (den a)
  | .sl a => List (den a)

def zero : (g : GTy) → den g
  | .bool => false
  | .int _ => (0 : Int)
  | .str => ([] : List UInt8)
  | .unit => ()
  | .prod a b => (zero a, zero b)
  | .arr n a => List.replicate n (zero a)
  | .sl _ => []

/-- How many cells a value has. -/
def ncell : GTy → Nat
  | .bool => 1
  | .int _ => 1
  | .str => 1
  | .unit => 0
  | .prod a b => ncell a + ncell b
  | .arr n a => n * ncell a
  | .sl _ => 1

def isAgg : GTy → Bool
  | .unit => true
  | .prod .. => true
  | .arr .. => true
  | _ => false

/-- At least so many bytes. -/
def lbytes : GTy → Nat
  | .bool => 1
  | .int k => match k with | .i8 | .u8 => 1 | .i16 | .u16 => 2 | .i32 | .u32 => 4 | .i64 | .u64 => 8
  | .str => 16
  | .unit => 0
  | .prod a b => lbytes a + lbytes b
  | .arr n a => n * lbytes a
  | .sl _ => 24

/-- Equality as Go has it (no slices within). -/
def geq : (g : GTy) → den g → den g → Bool
  | .bool, x, y => x == y
  | .int _, x, y => (x : Int) == y
  | .str, x, y => (x : List UInt8) == y
  | .unit, _, _ => true
  | .prod a b, x, y => geq a x.1 y.1 && geq b x.2 y.2
  | .arr _ a, x, y => go (geq a) x y
  | .sl _, _, _ => false
where
  go {α : Type} (f : α → α → Bool) : List α → List α → Bool
    | x :: xs, y :: ys => f x y && go f xs ys
    | _, _ => true

def cmp : GTy → Bool
  | .sl _ => false
  | .prod a b => cmp a && cmp b
  | .arr _ a => cmp a
  | _ => true

inductive PStep where
  | fst | snd | idx (i : Nat)

/-- The type that a path leads to. -/
def pathTy : GTy → List PStep → Option GTy
  | g, [] => some g
  | .prod a _, .fst :: p => pathTy a p
  | .prod _ b, .snd :: p => pathTy b p
  | .arr _ a, .idx _ :: p => pathTy a p
  | _, _ => none

def offs : GTy → List PStep → Nat
  | .prod a _, .fst :: p => offs a p
  | .prod a b, .snd :: p => ncell a + offs b p
  | .arr _ a, .idx i :: p => i * ncell a + offs a p
  | _, _ => 0

/-- Where in a value a path leads. -/
def sub : (g : GTy) → den g → List PStep → Option ((h : GTy) × den h)
  | g, x, [] => some ⟨g, x⟩
  | .prod a _, x, .fst :: p => sub a x.1 p
  | .prod _ b, x, .snd :: p => sub b x.2 p
  | .arr _ a, x, .idx i :: p => sub a (x.getD i (zero a)) p
  | _, _, _ => none

/-- A value with another one at a path. -/
def upd : (g : GTy) → den g → List PStep → ((h : GTy) × den h) → Option (den g)
  | g, _, [], ⟨h, v⟩ => match GTy.dec h g with
    | .isTrue e => some (e ▸ v)
    | .isFalse _ => none
  | .prod a _, x, .fst :: p, v => match upd a x.1 p v with
    | some y => some (y, x.2)
    | none => none
  | .prod _ b, x, .snd :: p, v => match upd b x.2 p v with
    | some y => some (x.1, y)
    | none => none
  | .arr _ a, x, .idx i :: p, v => match upd a (x.getD i (zero a)) p v with
    | some y => some (x.set i y)
    | none => none
  | _, _, _, _ => none

/-- The path to field k of a struct of n fields. -/
def fieldPath : (n k : Nat) → List PStep
  | 0, _ => []
  | 1, _ => [.fst]
  | 2, 0 => [.fst]
  | 2, _ => [.snd]
  | _ + 3, 0 => [.fst]
  | n + 3, k + 1 => .snd :: fieldPath (n + 2) k

/-- What is known of a value. -/
inductive AV where
  | undef
  | cst (v : Value)
  | val (g : GTy) (x : den g)
  | ptr (b : Nat) (g : GTy) (p : List PStep)
  | ref (g : GTy) (x : den g)
  | tip (b : Nat)
  | tup (l : List AV)
  | clo (f : Nat) (caps : List AV)
  deriving Inhabited

mutual
/-- Does a value point to that box? -/
def AV.has (b : Nat) : AV → Bool
  | .ptr c .. => Nat.beq c b
  | .tip c => Nat.beq c b
  | .tup l => AV.hasL b l
  | .clo _ l => AV.hasL b l
  | _ => false
def AV.hasL (b : Nat) : List AV → Bool
  | [] => false
  | v :: l => v.has b || AV.hasL b l
end

/-- Memory of the call's own: a variable; a row that a slice value covers whole. -/
inductive Box where
  | var (g : GTy) (x : den g)
  | row (e : Nat) (g : GTy) (xs : List (den g)) (frozen : Bool)

/-- A type's number in the program: the type, how many fields (a struct); of a slice: how many bytes an element has, and its type's number. -/
structure TInfo where
  g : GTy
  nf : Nat
  bytes : Nat
  el : Nat

def lk {α : Type} (k : Nat) : List (Nat × α) → Option α
  | [] => none
  | (j, v) :: l => match Nat.beq j k with
    | true => some v
    | false => lk k l

def st' {α : Type} (k : Nat) (v : α) : List (Nat × α) → List (Nat × α)
  | [] => [(k, v)]
  | (j, u) :: l => match Nat.beq j k with
    | true => (k, v) :: l
    | false => (j, u) :: st' k v l

/-- The slots; the boxes, each with a mark: 'true': written since the last fork. -/
structure St where
  tmps : List (Nat × AV)
  boxes : List (Nat × Bool × Box)

def St.look (s : St) (t : Nat) : AV := (lk t s.tmps).getD .undef
def St.box (s : St) (b : Nat) : Option Box := (lk b s.boxes).map (·.2)
def St.put (s : St) (t : Nat) (v : AV) : St := { s with tmps := st' t v s.tmps }

/-- The longest text. -/
def maxStr : Nat := 4611686018427387904
/-- The most bytes of a slice. -/
def maxRow : Nat := 140737488355328

def inRange (k : IntKind) (n : Int) : Bool := decide (k.min ≤ n) && decide (n ≤ k.max)

def constAV : Value → AV
  | .bool b => .val .bool b
  | .int k n => match inRange k n with
    | true => .val (.int k) n
    | false => .undef
  | .string s => match Nat.ble s.data.toList.length maxStr with
    | true => .val .str s.data.toList
    | false => .undef
  | v => .cst v

def St.eval (s : St) : Operand → AV
  | .tmp t => s.look t
  | .const v => constAV v
  | .global _ => .undef
  | .func f => .clo f []

def boxOf : AV → Option Nat
  | .ptr b .. => some b
  | .tip b => some b
  | _ => none

abbrev Arg := AV × Option Box
def St.arg (s : St) (x : Operand) : Arg :=
  let v := s.eval x
  (v, match boxOf v with | some b => s.box b | none => none)

/-- What an operation does: the value that it leaves, the boxes that it writes ('true': whatever pointed there points nowhere now), and what must hold. -/
structure Eff where
  av : AV
  wr : List (Nat × Bool × Box)
  need : Option Prop

/-- Values side by side. -/
@[reducible] def dens : List GTy → Type
  | [] => Unit
  | [g] => den g
  | g :: h :: gs => den g × dens (h :: gs)

def asVal (g : GTy) : AV → Option (den g)
  | .val h x => match GTy.dec h g with
    | .isTrue e => some (e ▸ x)
    | .isFalse _ => none
  | .cst (.slice none 0 0) => match g with
    | .sl _ => some []
    | _ => none
  | _ => none

/-- A value that can be kept: a row's is frozen from here on. -/
def take (g : GTy) (a : Arg) : Option (den g × List (Nat × Bool × Box)) :=
  match a with
  | (.tip b, some (.row t h xs _)) => match GTy.dec (.sl h) g with
    | .isTrue e => some (e ▸ (show den (.sl h) from xs), [(b, false, .row t h xs true)])
    | .isFalse _ => none
  | (v, _) => match asVal g v with
    | some x => some (x, [])
    | none => none

def takes : (gs : List GTy) → List Arg → Option (dens gs × List (Nat × Bool × Box))
  | [], [] => some ((), [])
  | [g], [a] => take g a
  | g :: h :: gs, a :: as => match take g a, takes (h :: gs) as with
    | some (x, w), some (y, w') => some ((x, y), w ++ w')
    | _, _ => none
  | _, _ => none

/-- What is told of a function: what it answers, where 'pre' holds. -/
structure Ctr where
  args : List GTy
  res : List GTy
  pre : Option (dens args → Prop)
  fn : dens args → dens res

def resL : (gs : List GTy) → dens gs → List AV
  | [], _ => []
  | [g], x => [.val g x]
  | g :: h :: gs, x => .val g x.1 :: resL (h :: gs) x.2

def resAV (gs : List GTy) (x : dens gs) : AV :=
  match resL gs x with
  | [v] => v
  | l => .tup l

def bitsOp (op : BinOp) (k : IntKind) (x y : Int) : Int :=
  let a := BitVec.ofInt k.bits x
  let b := BitVec.ofInt k.bits y
  match op with
  | .and => k.wrap (a &&& b).toNat
  | .or => k.wrap (a ||| b).toNat
  | .xor => k.wrap (a ^^^ b).toNat
  | _ => k.wrap (a &&& ~~~b).toNat

/-- A need that hangs on a constant alone is decided at once. -/
def needIf (p : Prop) [d : Decidable p] (known : Bool) (k : Option Prop → Option Eff) : Option Eff :=
  match known with
  | false => k (some p)
  | true => match d with
    | .isTrue _ => k none
    | .isFalse _ => none

def isK : Operand → Bool
  | .const _ => true
  | _ => false

def v0 (v : AV) : Option Eff := some ⟨v, [], none⟩

def intBin (op : BinOp) (k : IntKind) (a b : Int) (known : Bool) : Option Eff :=
  match op with
  | .add => v0 (.val (.int k) (k.wrap (a + b)))
  | .sub => v0 (.val (.int k) (k.wrap (a - b)))
  | .mul => v0 (.val (.int k) (k.wrap (a * b)))
  | .quo => needIf (b ≠ 0) known fun p => some ⟨.val (.int k) (k.wrap (a.tdiv b)), [], p⟩
  | .rem => needIf (b ≠ 0) known fun p => some ⟨.val (.int k) (a.tmod b), [], p⟩
  | .and => v0 (.val (.int k) (bitsOp .and k a b))
  | .or => v0 (.val (.int k) (bitsOp .or k a b))
  | .xor => v0 (.val (.int k) (bitsOp .xor k a b))
  | .andNot => v0 (.val (.int k) (bitsOp .andNot k a b))
  | .eql => v0 (.val .bool (a == b))
  | .neq => v0 (.val .bool (a != b))
  | .lss => v0 (.val .bool (decide (a < b)))
  | .leq => v0 (.val .bool (decide (a ≤ b)))
  | .gtr => v0 (.val .bool (decide (a > b)))
  | .geq => v0 (.val .bool (decide (a ≥ b)))
  | _ => none

def strBin (op : BinOp) (a b : List UInt8) : Option Eff :=
  match op with
  | .add => some ⟨.val .str (a ++ b), [], some (a.length + b.length ≤ maxStr)⟩
  | .eql => v0 (.val .bool (a == b))
  | .neq => v0 (.val .bool (!(a == b)))
  | .lss => v0 (.val .bool (Op.bytesLess a b))
  | .leq => v0 (.val .bool (Op.bytesLess a b || a == b))
  | .gtr => v0 (.val .bool (!(Op.bytesLess a b || a == b)))
  | .geq => v0 (.val .bool (!(Op.bytesLess a b)))
  | _ => none

def eqBin (g : GTy) (op : BinOp) (a b : den g) : Option Eff :=
  match cmp g, op with
  | true, .eql => v0 (.val .bool (geq g a b))
  | true, .neq => v0 (.val .bool (!(geq g a b)))
  | _, _ => none

def binEff (t : Option TInfo) (op : BinOp) (known : Bool) (x y : AV) : Option Eff :=
  match op, x, y with
  | .shl, .val (.int k) a, .val (.int _) b => needIf ((0 : Int) ≤ b) known fun p => some ⟨.val (.int k) (k.wrap ((a : Int) * 2 ^ (min (b : Int).toNat k.bits))), [], p⟩
  | .shr, .val (.int k) a, .val (.int _) b => needIf ((0 : Int) ≤ b) known fun p => some ⟨.val (.int k) ((a : Int).fdiv (2 ^ (min (b : Int).toNat k.bits))), [], p⟩
  | op, .val (.int k) a, .val (.int k') b => match kindEq k k' with
    | .isTrue _ => intBin op k a b known
    | .isFalse _ => none
  | op, .val .str a, .val .str b => strBin op a b
  | op, .val g a, .val h b => match GTy.dec h g, t with
    | .isTrue e, some i => match GTy.dec i.g g with
      | .isTrue _ => eqBin g op a (e ▸ b)
      | .isFalse _ => none
    | _, _ => none
  | _, _, _ => none

def unEff (op : UnOp) (x : AV) : Option Eff :=
  match op, x with
  | .not, .val .bool b => v0 (.val .bool (!b))
  | .neg, .val (.int k) n => v0 (.val (.int k) (k.wrap (0 - n)))
  | .xor, .val (.int k) n => v0 (.val (.int k) (bitsOp .xor k (if k.signed then -1 else k.max) n))
  | _, _ => none

def bytesToStr (l : List Int) : List UInt8 := l.map fun n => UInt8.ofNat n.toNat
def strToBytes (s : List UInt8) : List Int := s.map fun b => (b.toNat : Int)

def convEff (src dst : GTy) (x : Arg) : Option Eff :=
  match src, dst, x with
  | _, .int k, (.val (.int _) n, _) => v0 (.val (.int k) (k.wrap n))
  | _, .str, (.val .str s, _) => v0 (.val .str s)
  | .sl (.int .u8), .str, (.val (.sl (.int .u8)) l, _) => v0 (.val .str (bytesToStr l))
  | .sl (.int .u8), .str, (.tip _, some (.row _ (.int .u8) l _)) => v0 (.val .str (bytesToStr l))
  | _, _, _ => none

/-- A slice's elements, to be read only. -/
def rowOf (a : GTy) (x : Arg) : Option (List (den a)) :=
  match x with
  | (.tip _, some (.row _ h xs _)) => match GTy.dec h a with
    | .isTrue e => some (e ▸ xs)
    | .isFalse _ => none
  | (.val (.sl h) xs, _) => match GTy.dec h a with
    | .isTrue e => some (e ▸ (show List (den h) from xs))
    | .isFalse _ => none
  | (.cst (.slice none 0 0), _) => some []
  | _ => none

def parts (g : GTy) (path : Nat → List PStep) : List (Nat × Arg) → den g → Option (den g × List (Nat × Bool × Box))
  | [], x => some (x, [])
  | (i, a) :: l, x => match pathTy g (path i) with
    | none => none
    | some h => match take h a with
      | none => none
      | some (v, w) => match upd g x (path i) ⟨h, v⟩ with
        | none => none
        | some y => match parts g path l y with
          | none => none
          | some (z, w') => some (z, w ++ w')

def ix (i n : Int) (known : Bool) (k : Option Prop → Option Eff) : Option Eff := needIf (0 ≤ i ∧ i < n) known k

abbrev Tys := Nat → Option TInfo
abbrev Ctrs := Nat → Option Ctr

def maxmin (isMax : Bool) (k : IntKind) : List Arg → Int → Option Int
  | [], acc => some acc
  | (.val (.int k') n, _) :: l, acc => match kindEq k' k with
    | .isTrue _ => maxmin isMax k l (if isMax then (if acc < n then n else acc) else (if (n : Int) < acc then n else acc))
    | .isFalse _ => none
  | _ :: _, _ => none

/-- A piece of a list, and what must hold. -/
def piece {α : Type} (l : List α) (lo hi : Option Int) : List α × Option Prop :=
  match lo, hi with
  | none, none => (l, none)
  | some i, none => (l.drop i.toNat, some (0 ≤ i ∧ i ≤ l.length))
  | none, some j => (l.take j.toNat, some (0 ≤ j ∧ j ≤ l.length))
  | some i, some j => ((l.take j.toNat).drop i.toNat, some (0 ≤ i ∧ i ≤ j ∧ j ≤ l.length))

def both (p : Option Prop) (q : Prop) : Option Prop :=
  match p with
  | none => some q
  | some p => some (p ∧ q)

def asIntAV : AV → Option Int
  | .val (.int _) n => some n
  | _ => none

/-- The bounds of a slice expression, out of what is left of the arguments. -/
def bounds (lo hi mx : Bool) : List Arg → Option (Option Int × Option Int × Option Int)
  | l => match lo, hi, mx, l with
    | false, false, false, [] => some (none, none, none)
    | true, false, false, [(a, _)] => (asIntAV a).map fun i => (some i, none, none)
    | false, true, false, [(b, _)] => (asIntAV b).map fun j => (none, some j, none)
    | true, true, false, [(a, _), (b, _)] => match asIntAV a, asIntAV b with
      | some i, some j => some (some i, some j, none)
      | _, _ => none
    | true, true, true, [(a, _), (b, _), (c, _)] => match asIntAV a, asIntAV b, asIntAV c with
      | some i, some j, some m => some (some i, some j, some m)
      | _, _, _ => none
    | false, true, true, [(b, _), (c, _)] => match asIntAV b, asIntAV c with
      | some j, some m => some (none, some j, some m)
      | _, _ => none
    | _, _, _, _ => none

def sliceEff (t : GTy) (a : Arg) (bs : Option (Option Int × Option Int × Option Int)) : Option Eff :=
  match bs with
  | none => none
  | some (lo, hi, mx) => match a with
    | (.val .str s, _) => match t, mx with
      | .str, none => some ⟨.val .str (piece s lo hi).1, [], (piece s lo hi).2⟩
      | _, _ => none
    | (.val (.sl g) xs, _) => match GTy.dec t (.sl g), mx, hi with
      | .isTrue _, none, _ => some ⟨.val (.sl g) (piece (show List (den g) from xs) lo hi).1, [], (piece (show List (den g) from xs) lo hi).2⟩
      | .isTrue _, some m, some j => some ⟨.val (.sl g) (piece (show List (den g) from xs) lo hi).1, [], both (piece (show List (den g) from xs) lo hi).2 (j ≤ m ∧ m ≤ (show List (den g) from xs).length)⟩
      | _, _, _ => none
    | (.tip b, some (.row e g xs _)) => match GTy.dec t (.sl g), mx with
      | .isTrue _, none => some ⟨.val (.sl g) (piece xs lo hi).1, [(b, false, .row e g xs true)], (piece xs lo hi).2⟩
      | _, _ => none
    | _ => none

def lenEff (t : GTy) (a : Arg) : Option Eff :=
  match t, a with
  | .str, (.val .str s, _) => v0 (.val (.int .i64) (s.length : Int))
  | .arr n _, (.val (.arr _ _) _, _) => match Nat.ble n maxRow with
    | true => v0 (.val (.int .i64) (n : Int))
    | false => none
  | .sl _, (.val (.sl _) xs, _) => v0 (.val (.int .i64) (xs.length : Int))
  | .sl _, (.tip _, some (.row _ _ xs _)) => v0 (.val (.int .i64) (xs.length : Int))
  | .sl _, (.cst (.slice none 0 0), _) => v0 (.val (.int .i64) (0 : Int))
  | _, _ => none

def loadEff (g : GTy) (a : Arg) : Option Eff :=
  match a with
  | (.ptr _ _ p, some (.var h x)) => match sub h x p with
    | some ⟨k, y⟩ => match GTy.dec k g with
      | .isTrue _ => v0 (.val k y)
      | .isFalse _ => none
    | none => none
  | (.ptr _ _ p, some (.row _ h xs _)) => match sub (.arr 0 h) xs p with
    | some ⟨k, y⟩ => match GTy.dec k g with
      | .isTrue _ => v0 (.val k y)
      | .isFalse _ => none
    | none => none
  | (.ref k y, _) => match GTy.dec k g with
    | .isTrue _ => v0 (.val k y)
    | .isFalse _ => none
  | _ => none

def storeEff (g : GTy) (a v : Arg) : Option Eff :=
  match take g v with
  | none => none
  | some (y, w) => match a with
    | (.ptr b _ p, some (.var h x)) => match upd h x p ⟨g, y⟩ with
      | some z => some ⟨.undef, w ++ [(b, false, .var h z)], none⟩
      | none => none
    | (.ptr b _ p, some (.row t h xs false)) => match upd (.arr 0 h) xs p ⟨g, y⟩, w with
      | some z, [] => some ⟨.undef, [(b, false, .row t h z false)], none⟩
      | _, _ => none
    | _ => none

def fieldOK (i : TInfo) (k : Nat) : Bool :=
  match i.g with
  | .prod .. => Nat.blt k i.nf
  | _ => false

def fieldAddrEff (i : TInfo) (k : Nat) (a : Arg) : Option Eff :=
  match fieldOK i k, a with
  | true, (.ptr b g p, some _) => match pathTy g p, pathTy i.g (fieldPath i.nf k) with
    | some h, some _ => match GTy.dec h i.g with
      | .isTrue _ => v0 (.ptr b g (p ++ fieldPath i.nf k))
      | .isFalse _ => none
    | _, _ => none
  | true, (.ref g x, _) => match GTy.dec g i.g with
    | .isTrue _ => match sub g x (fieldPath i.nf k) with
      | some ⟨h, y⟩ => v0 (.ref h y)
      | none => none
    | .isFalse _ => none
  | _, _ => none

def fieldEff (i : TInfo) (k : Nat) (a : Arg) : Option Eff :=
  match fieldOK i k, a with
  | true, (.val g x, _) => match GTy.dec g i.g with
    | .isTrue _ => match sub g x (fieldPath i.nf k) with
      | some ⟨h, y⟩ => v0 (.val h y)
      | none => none
    | .isFalse _ => none
  | _, _ => none

def indexAddrEff (t : GTy) (known : Bool) (a i : Arg) : Option Eff :=
  match asIntAV i.1 with
  | none => none
  | some i => match t, a with
    | .arr n h, (.ptr b g p, some (.var _ _)) => match pathTy g p with
      | some k => match GTy.dec k (.arr n h) with
        | .isTrue _ => ix i n known fun q => some ⟨.ptr b g (p ++ [.idx i.toNat]), [], q⟩
        | .isFalse _ => none
      | _ => none
    | .sl k, (.tip b, some (.row _ h xs _)) => match GTy.dec k h with
      | .isTrue _ => ix i xs.length false fun q => some ⟨.ptr b (.arr 0 h) [.idx i.toNat], [], q⟩
      | .isFalse _ => none
    | .sl k, (.val (.sl h) xs, _) => match GTy.dec k h with
      | .isTrue _ => ix i (show List (den h) from xs).length false fun q => some ⟨.ref h ((show List (den h) from xs).getD i.toNat (zero h)), [], q⟩
      | .isFalse _ => none
    | .arr m k, (.ref (.arr n h) xs, _) => match GTy.dec (.arr m k) (.arr n h) with
      | .isTrue _ => ix i n known fun q => some ⟨.ref h ((show List (den h) from xs).getD i.toNat (zero h)), [], q⟩
      | .isFalse _ => none
    | _, _ => none

def indexEff (t : GTy) (known : Bool) (a i : Arg) : Option Eff :=
  match asIntAV i.1 with
  | none => none
  | some i => match t, a with
    | .arr m k, (.val (.arr n h) xs, _) => match GTy.dec (.arr m k) (.arr n h) with
      | .isTrue _ => ix i n known fun q => some ⟨.val h ((show List (den h) from xs).getD i.toNat (zero h)), [], q⟩
      | .isFalse _ => none
    | .str, (.val .str s, _) => ix i (show List UInt8 from s).length false fun q => some ⟨.val (.int .u8) (((show List UInt8 from s).getD i.toNat 0).toNat : Int), [], q⟩
    | _, _ => none

def appendEff (key : Nat) (i : TInfo) (g : GTy) (a x : Arg) : Option Eff :=
  match rowOf g x with
  | none => none
  | some ys => match a with
    | (.tip b, some (.row t h xs fz)) => match Nat.decEq t i.el, GTy.dec h g with
      | .isTrue _, .isTrue q => some ⟨.tip b, [(b, true, .row i.el g ((q ▸ xs) ++ ys) fz)], some ((xs.length + ys.length) * i.bytes ≤ maxRow)⟩
      | _, _ => none
    | (.cst (.slice none 0 0), _) => some ⟨.tip key, [(key, true, .row i.el g ys false)], some (ys.length * i.bytes ≤ maxRow)⟩
    | _ => none

def pickEff (c a b : AV) : Option Eff :=
  match c, a, b with
  | .val .bool x, .val g u, .val h v => match GTy.dec h g with
    | .isTrue e => v0 (.val g (bif x then u else (e ▸ v)))
    | .isFalse _ => none
  | .val .bool x, va, vb => match x with
    | true => (match va with | .val g u => v0 (.val g u) | _ => none)
    | false => (match vb with | .val h v => v0 (.val h v) | _ => none)
  | _, _, _ => none

/-- Every part stands for a part that is there. -/
def partsIn (i : TInfo) (ks : List Nat) : Bool :=
  match i.g with
  | .arr n _ => ks.all fun k => Nat.blt k n
  | .prod .. => ks.all fun k => Nat.blt k i.nf
  | _ => false

def partPath (i : TInfo) (k : Nat) : List PStep :=
  match i.g with
  | .arr .. => [.idx k]
  | _ => fieldPath i.nf k

def opEff (τ : Tys) (Γ : Ctrs) (key : Nat) (o : Oper) (args : List Arg) : Option Eff :=
  match o.op, args with
  | .move _, [a] => v0 a.1
  | .assign _, [a] => v0 a.1
  | .pick _ _ _, [c, a, b] => pickEff c.1 a.1 b.1
  | .alloc t, [] => match τ t with
    | some i => some ⟨.ptr key i.g [], [(key, true, .var i.g (zero i.g))], none⟩
    | none => none
  | .box t _, [a] => match τ t with
    | some i => match take i.g a with
      | some (x, w) => some ⟨.ptr key i.g [], w ++ [(key, true, .var i.g x)], none⟩
      | none => none
    | none => none
  | .build t ps, args => match τ t with
    | some i => match partsIn i (ps.toList.map (·.1)), parts i.g (partPath i) ((ps.toList.map (·.1)).zip args) (zero i.g) with
      | true, some (x, w) => some ⟨.val i.g x, w, none⟩
      | _, _ => none
    | none => none
  | .buildSlice t n ps, args => match τ t with
    | some ⟨.sl g, _, b, el⟩ => match (ps.toList.map (·.1)).all (fun k => Nat.blt k n), parts (.arr n g) (fun k => [.idx k]) ((ps.toList.map (·.1)).zip args) (zero (.arr n g)) with
      | true, some (x, w) => needIf (n * ncell g ≤ 2 ^ 24 ∧ n * b ≤ maxRow) true fun q => some ⟨.tip key, w ++ [(key, true, .row el g x false)], q⟩
      | _, _ => none
    | _ => none
  | .load t _, [a] => match τ t with
    | some i => loadEff i.g a
    | none => none
  | .store t _ _, [a, v] => match τ t with
    | some i => storeEff i.g a v
    | none => none
  | .nilCheck _, [a] => match a.1 with
    | .ptr .. | .ref .. | .clo .. => v0 a.1
    | _ => none
  | .binOp op t _ y _, [a, b] => binEff (τ t) op (isK y) a.1 b.1
  | .unOp op _ _, [a] => unEff op a.1
  | .convert s d _, [a] => match τ s, τ d with
    | some j, some i => convEff j.g i.g a
    | _, _ => none
  | .slice t _ lo hi mx, a :: l => match τ t with
    | some i => sliceEff i.g a (bounds lo.isSome hi.isSome mx.isSome l)
    | none => none
  | .fieldAddr t _ k, [a] => match τ t with
    | some i => fieldAddrEff i k a
    | none => none
  | .field t _ k, [a] => match τ t with
    | some i => fieldEff i k a
    | none => none
  | .indexAddr t _ i, [a, b] => match τ t with
    | some j => indexAddrEff j.g (isK i) a b
    | none => none
  | .index t _ i, [a, b] => match τ t with
    | some j => indexEff j.g (isK i) a b
    | none => none
  | .extract _ i, [a] => match a.1 with
    | .tup l => match l[i]? with
      | some v => v0 v
      | none => none
    | _ => none
  | .makeFunc (.func f) first _, args => match first.toList with
    | [] => v0 (.clo f (args.map (·.1)))
    | _ :: _ => none
  | .makeSlice t _ _, [a, b] => match τ t, asIntAV a.1, asIntAV b.1 with
    | some ⟨.sl g, _, bytes, el⟩, some n, some c => some ⟨.tip key, [(key, true, .row el g (List.replicate n.toNat (zero g)) false)], some (0 ≤ n ∧ n ≤ c ∧ c * bytes ≤ maxRow)⟩
    | _, _, _ => none
  | .call { callee := .builtin bi, argTypes, .. }, args => match bi, args with
    | .len, [a] => match argTypes.toList with
      | [t] => match τ t with
        | some i => lenEff i.g a
        | none => none
      | _ => none
    | .max, (.val (.int k) n, _) :: l => match maxmin true k l n with
      | some m => v0 (.val (.int k) m)
      | none => none
    | .min, (.val (.int k) n, _) :: l => match maxmin false k l n with
      | some m => v0 (.val (.int k) m)
      | none => none
    | .append, [a, x] => match argTypes.toList with
      | [t, u] => match Nat.decEq t u, τ t with
        | .isTrue _, some ⟨.sl g, nf, b, el⟩ => appendEff key ⟨.sl g, nf, b, el⟩ g a x
        | _, _ => none
      | _ => none
    | _, _ => none
  | .call { callee := .value (.func f), .. }, _ :: args => match Γ f with
    | some c => match takes c.args args with
      | some (x, w) => some ⟨resAV c.res (c.fn x), w, c.pre.map (· x)⟩
      | none => none
    | none => none
  | _, _ => none

/-! ### States -/

def kill (b : Nat) (l : List (Nat × AV)) : List (Nat × AV) :=
  l.map fun (t, v) => (t, match v.has b with | true => .undef | false => v)

def St.wr1 (s : St) (x : Nat × Bool × Box) : St :=
  match x.2.1, s.box x.1 with
  | true, some _ => { tmps := kill x.1 s.tmps, boxes := st' x.1 (true, x.2.2) s.boxes }
  | _, _ => { s with boxes := st' x.1 (true, x.2.2) s.boxes }

def St.wrs (s : St) : List (Nat × Bool × Box) → St
  | [] => s
  | x :: l => (s.wr1 x).wrs l

def St.putO (s : St) (d : Option Nat) (v : AV) : St :=
  match d with
  | some d => s.put d v
  | none => s

/-- What an operation leaves. -/
def St.after (s : St) (o : Oper) (e : Eff) : St := (s.wrs e.wr).putO o.dst e.av

inductive Tree (α : Type) where
  | leaf (a : α)
  | br (c : Bool) (t e : Tree α)
  | need (p : Prop) (t : Tree α)
  | stuck

namespace Tree
def bind {α β : Type} : Tree α → (α → Tree β) → Tree β
  | .leaf a, k => k a
  | .br c t e, k => .br c (t.bind k) (e.bind k)
  | .need p t, k => .need p (t.bind k)
  | .stuck, _ => .stuck

def needO {α : Type} (p : Option Prop) (t : Tree α) : Tree α :=
  match p with
  | none => t
  | some p => .need p t

/-- Whatever way is taken: what must hold does, and it ends well. -/
def holds {α : Type} (Q : α → Prop) : Tree α → Prop
  | .leaf a => Q a
  | .br c t e => (c = true → holds Q t) ∧ (c = false → holds Q e)
  | .need p t => p ∧ holds Q t
  | .stuck => False

/-- One leaf, and what must hold ahead of it. -/
def single {α : Type} : Tree α → Option (List Prop × α)
  | .leaf a => some ([], a)
  | .need p t => match single t with
    | some (ps, a) => some (p :: ps, a)
    | none => none
  | _ => none

def needs {α : Type} (c : Bool) : List Prop → Tree α → Tree α
  | [], t => t
  | p :: ps, t => .need (c = true → p) (needs c ps t)
end Tree

inductive Ex where
  | normal
  | exit (id : Nat)
  | ret

structure LoopSpec where
  /-- slots that hold the nil slice, to be rows: slot, box, elements -/
  prom : List (Nat × Nat × Nat × GTy)
  /-- slots and boxes that are kept -/
  keep : List Nat
  boxes : List Nat
  sum : St → Tree (Ex × St)

structure Ctx where
  τ : Tys
  Γ : Ctrs
  Λ : Nat → Option LoopSpec
  /-- each test is decided at once (nothing is open) -/
  dec : Bool := false

/-! ### Guards -/

/-- The slots that must hold these bools for an operation of a region to be carried out. -/
def chain (ops : List Oper) : Nat → Oper → List (Nat × Bool)
  | 0, _ => []
  | n + 1, o => match o.guard with
    | none => []
    | some (j, w) => match ops[j]? with
      | some oj => match oj.dst with
        | some d => (d, w) :: chain ops n oj
        | none => []
      | none => []

def gcond (s : St) : List (Nat × Bool) → Bool
  | [] => true
  | (d, w) :: l => match s.look d with
    | .val .bool x => (x == w) && gcond s l
    | _ => gcond s l

def gneed (s : St) (ch : List (Nat × Bool)) (p : Option Prop) : Option Prop :=
  match p with
  | none => none
  | some p => match ch with
    | [] => some p
    | _ :: _ => some (gcond s ch = true → p)

def memP (x : Nat × Bool) : List (Nat × Bool) → Bool
  | [] => false
  | y :: l => (Nat.beq x.1 y.1 && (x.2 == y.2)) || memP x l

def subP : List (Nat × Bool) → List (Nat × Bool) → Bool
  | [], _ => true
  | x :: l, m => memP x m && subP l m

def memN (x : Nat) : List Nat → Bool
  | [] => false
  | y :: l => Nat.beq x y || memN x l

def tmpOf : Operand → List Nat
  | .tmp t => [t]
  | _ => []

def tmpsOf (l : List Operand) : List Nat := l.flatMap tmpOf

def dstIs (t : Nat) (o : Oper) : Bool :=
  match o.dst with
  | some d => Nat.beq d t
  | none => false

/-- What the operand's own operation must have seen, the op has seen. -/
def seen (ops : List Oper) (n : Nat) (ch : List (Nat × Bool)) (t : Nat) : Bool :=
  match ops.find? (dstIs t) with
  | none => true
  | some m => subP (chain ops n m) ch

def guardOK (ops : List Oper) (n : Nat) (o : Oper) : Bool :=
  let ch := chain ops n o
  match o.op with
  | .pick c a b =>
    (tmpOf c).all (seen ops n ch) &&
    (match c with
      | .tmp s => (tmpOf a).all (seen ops n ((s, true) :: ch)) && (tmpOf b).all (seen ops n ((s, false) :: ch))
      | _ => (tmpOf a).all (seen ops n ch) && (tmpOf b).all (seen ops n ch))
  | op => (tmpsOf op.operands.toList).all (seen ops n ch)

def dsts (ops : List Oper) : List Nat := ops.filterMap (·.dst)

def nodupN : List Nat → Bool
  | [] => true
  | x :: l => !(memN x l) && nodupN l

/-- The guards of a region: each stands ahead, each slot is written once, and what is read has been carried out. -/
def guardsOK (ops : List Oper) : Bool :=
  nodupN (dsts ops) && ops.all (guardOK ops ops.length) &&
      ops.zipIdx.all fun (o, i) => match o.guard with
        | none => true
        | some (j, _) => Nat.blt j i && (match ops[j]? with | some oj => oj.dst.isSome | none => false)

/-- The slots that a guarded operation writes hold nothing behind the region. -/
def guarded (ops : List Oper) : List Nat := (ops.filter (·.guard.isSome)).filterMap (·.dst)

def St.drop (s : St) (l : List Nat) : St :=
  match l with
  | [] => s
  | _ => { s with tmps := s.tmps.filter fun (t, _) => !(memN t l) }

/-! ### Code -/

def St.args (s : St) (o : Oper) : List Arg := o.op.operands.toList.map s.arg

/-- A region that has no guards and no draw. -/
def runOps (C : Ctx) : List Oper → St → Tree St
  | [], s => .leaf s
  | o :: l, s => match opEff C.τ C.Γ (o.dst.getD 0) o (s.args o) with
    | none => .stuck
    | some e => .needO e.need (runOps C l (s.after o e))

/-- What the operations of a region do, in the order of the text: ahead of each the state, and its effect. -/
def effs (C : Ctx) : List Oper → St → Option (List (St × Eff) × St)
  | [], s => some ([], s)
  | o :: l, s => match opEff C.τ C.Γ (o.dst.getD 0) o (s.args o) with
    | none => none
    | some e => match effs C l (s.after o e) with
      | none => none
      | some (r, s') => some ((s, e) :: r, s')

/-- What an operation touches: slots, boxes; boxes that it writes. -/
structure Foot where
  rt : List Nat
  wt : Option Nat
  rb : List Nat
  wb : List Nat

def guardSlot (all : List Oper) (o : Oper) : List Nat :=
  match o.guard with
  | none => []
  | some (j, _) => match all[j]? with
    | some oj => oj.dst.toList
    | none => []

def foot (all : List Oper) (o : Oper) (s : St) (e : Eff) : Foot :=
  { rt := tmpsOf o.op.operands.toList ++ guardSlot all o, wt := o.dst, rb := (s.args o).filterMap fun a => boxOf a.1, wb := e.wr.map (·.1) }

def feet (all : List Oper) : List Oper → List (St × Eff) → List Foot
  | o :: l, x :: r => foot all o x.1 x.2 :: feet all l r
  | _, _ => []

def disj (a b : Foot) : Bool :=
  (match a.wt with | some d => !(memN d b.rt) && (match b.wt with | some d' => !(Nat.beq d d') | none => true) | none => true) &&
  (match b.wt with | some d => !(memN d a.rt) | none => true) &&
  a.wb.all (fun x => !(memN x b.rb) && !(memN x b.wb)) && b.wb.all (fun x => !(memN x a.rb))

/-- Each operation waits for each one ahead that it is not apart from. -/
def orderOK : List Oper → List Foot → List (Nat × Foot) → Nat → Bool
  | o :: l, f :: fs, before, i => before.all (fun (j, g) => (o.after.toList.any fun e => Nat.beq e.on j && Region.binds .any e) || disj g f) &&
      (o.after.toList.all fun e => !(Region.binds .any e) || Nat.blt e.on i) && orderOK l fs ((i, f) :: before) (i + 1)
  | _, _, _, _ => true

/-- No box is made anew. -/
def freshWr : List (Nat × Bool × Box) → List (Nat × Bool × Box) → Bool
  | [], _ => true
  | x :: l, bs => (!x.2.1 || (lk x.1 bs).isNone) && freshWr l (st' x.1 (true, x.2.2) bs)

/-- No box is made anew, and what is guarded writes no box. -/
def effsOK : List Oper → List (St × Eff) → Bool
  | o :: l, x :: r => freshWr x.2.wr x.1.boxes && (o.guard.isNone || x.2.wr.isEmpty) && effsOK l r
  | _, _ => true

/-- What must hold. -/
def effsNeed (all : List Oper) : List Oper → List (St × Eff) → Tree St → Tree St
  | o :: l, x :: r, t => .needO (gneed x.1 (chain all all.length o) x.2.need) (effsNeed all l r t)
  | _, _, t => t

/-- A region that has guards, or a draw. -/
def runDraw (C : Ctx) (ops : List Oper) (draw : Bool) (s : St) : Tree St :=
  match guardsOK ops with
  | false => .stuck
  | true => match effs C ops s with
    | none => .stuck
    | some (r, s') => match effsOK ops r && (!draw || orderOK ops (feet ops ops r) [] 0) with
      | true => effsNeed ops ops r (.leaf (s'.drop (guarded ops)))
      | false => .stuck

def boolAV : AV → Option Bool
  | .val .bool x => some x
  | _ => none
def isSkip : AV → Bool
  | .cst (.tuple a) => a.isEmpty
  | _ => false

/-- Both ways, or the one that is taken. -/
def pickT {α : Type} (dec x : Bool) (a b : Tree α) : Tree α :=
  match dec with
  | false => .br x a b
  | true => match x with
    | true => a
    | false => b

/-- A region that has guards, and no draw: way by way. -/
def runBr (C : Ctx) (all : List Oper) : List Oper → St → Tree St
  | [], s => .leaf s
  | o :: l, s => match o.guard with
    | none => match opEff C.τ C.Γ (o.dst.getD 0) o (s.args o) with
      | none => .stuck
      | some e => .needO e.need (runBr C all l (s.after o e))
    | some (j, w) => match (all[j]?).bind (·.dst) with
      | none => .stuck
      | some d => match boolAV (s.look d), isSkip (s.look d) with
        | some x, _ => pickT C.dec (x == w)
            (match opEff C.τ C.Γ (o.dst.getD 0) o ((s.put d (.val .bool w)).args o) with
              | none => .stuck
              | some e => .needO e.need (runBr C all l ((s.put d (.val .bool w)).after o e)))
            (runBr C all l ((s.put d (.val .bool (!w))).putO o.dst (.cst (.tuple #[]))))
        | none, true => runBr C all l (s.putO o.dst (.cst (.tuple #[])))
        | none, false => .stuck

def orElse {α : Type} : Tree α → Tree α → Tree α
  | .stuck, t => t
  | t, _ => t

/-! Forks -/

def mergeAV (x : Bool) (u v : AV) : AV :=
  match u, v with
  | .val g a, .val h b => match GTy.dec h g with
    | .isTrue e => .val g (bif x then a else e ▸ b)
    | .isFalse _ => .undef
  | .tip b, .tip c => match Nat.beq b c with
    | true => .tip b
    | false => .undef
  | .ptr b g [], .ptr c h [] => match Nat.beq b c, GTy.dec h g with
    | true, .isTrue _ => .ptr b g []
    | _, _ => .undef
  | _, _ => .undef

def mergeBox (x : Bool) : Box → Box → Option Box
  | .var g a, .var h b => match GTy.dec h g with
    | .isTrue e => some (.var g (bif x then a else e ▸ b))
    | .isFalse _ => none
  | .row t g a f, .row u h b f' => match Nat.decEq u t, GTy.dec h g with
    | .isTrue _, .isTrue e => some (.row t g (bif x then a else e ▸ b) (f || f'))
    | _, _ => none
  | _, _ => none

/-- The boxes behind a fork: those that both ways have. -/
def mergeBoxes (x : Bool) (s m : List (Nat × Bool × Box)) : List (Nat × Bool × Box) → Option (List (Nat × Bool × Box))
  | [] => some []
  | (b, d, B) :: l => match lk b m with
    | none => mergeBoxes x s m l
    | some (d', B') => match (d || d') with
      | false => match lk b s, mergeBoxes x s m l with
        | some (_, Z), some r => some ((b, false, Z) :: r)
        | _, _ => none
      | true => match mergeBox x B B', mergeBoxes x s m l with
        | some Z, some r => some ((b, true, Z) :: r)
        | _, _ => none

def isUndef : AV → Bool
  | .undef => true
  | _ => false

/-- What no box bears any more points nowhere. -/
def live (bs : List (Nat × Bool × Box)) : AV → Bool
  | .ptr b .. => (lk b bs).isSome
  | .tip b => (lk b bs).isSome
  | .val .. | .cst _ => true
  | .ref .. => true
  | _ => false

/-- A slot that neither way writes is as it was, or points nowhere any more. -/
def mergeTmps (bs : List (Nat × Bool × Box)) (W : List Nat) (a b : St) : List (Nat × AV) → List (Nat × AV)
  | [] => []
  | (t, v) :: l => (t, match memN t W || isUndef (a.look t) || isUndef (b.look t) || !(live bs v) with | true => AV.undef | false => v) :: mergeTmps bs W a b l

def newTmps (x : Bool) (bs : List (Nat × Bool × Box)) (a b : St) : List Nat → List (Nat × AV)
  | [] => []
  | t :: l => (t, match mergeAV x (a.look t) (b.look t) with | v => (match live bs v with | true => v | false => .undef)) :: newTmps x bs a b l

def mergeSt (x : Bool) (W : List Nat) (s a b : St) : Option St :=
  match mergeBoxes x s.boxes b.boxes a.boxes with
  | none => none
  | some bs => some { tmps := newTmps x bs a b W ++ mergeTmps bs W a b s.tmps, boxes := bs }

def St.clean (s : St) : St := { s with boxes := s.boxes.map fun (b, _, B) => (b, false, B) }
/-- A box that was written ahead of the fork stays marked. -/
def St.remark (s old : St) : St := { s with boxes := s.boxes.map fun (b, d, B) => (b, d || (match lk b old.boxes with | some (d', _) => d' | none => true), B) }

def dedupN : List Nat → List Nat
  | [] => []
  | x :: l => match memN x l with
    | true => dedupN l
    | false => x :: dedupN l

/-- The slots that code writes. -/
def writes : Code → List Nat
  | .region _ ops _ => dsts ops.toList
  | .seq a b => writes a ++ writes b
  | .cond _ a b => writes a ++ writes b
  | .block _ c => writes c
  | .loop c => writes c
  | .scope c => writes c
  | _ => []

def fork (x : Bool) (W : List Nat) (s : St) (a b : Tree (Ex × St)) : Tree (Ex × St) :=
  match a.single, b.single with
  | some (ps, .normal, sa), some (qs, .normal, sb) => match mergeSt x W s sa sb with
    | some m => .needs x ps (.needs (!x) qs (.leaf (.normal, m)))
    | none => .br x a b
  | _, _ => .br x a b

def remarkT (old : St) (t : Tree (Ex × St)) : Tree (Ex × St) := t.bind fun (e, s) => .leaf (e, s.remark old)

/-! Loops -/

def promote (s : St) : List (Nat × Nat × Nat × GTy) → Option St
  | [] => some s
  | (t, k, e, g) :: l => match s.look t with
    | .cst (.slice none 0 0) => match s.box k, Nat.blt 0 (ncell g) with
      | none, true => promote { tmps := st' t (.tip k) s.tmps, boxes := st' k (true, .row e g [] false) s.boxes } l
      | _, _ => none
    | .tip _ => promote s l
    | _ => none

def keepT (l : List Nat) (s : St) : List (Nat × AV) := l.map fun t => (t, s.look t)
def keepB (l : List Nat) (s : List (Nat × Bool × Box)) : Option (List (Nat × Bool × Box)) :=
  match l with
  | [] => some []
  | b :: l => match lk b s, keepB l s with
    | some (_, B), some r => some ((b, false, B) :: r)
    | _, _ => none

/-- The state that a loop sees. -/
def restrict (L : LoopSpec) (s : St) : Option St :=
  match keepB L.boxes s.boxes with
  | none => none
  | some bs => match (keepT L.keep s).all fun (_, v) => (isUndef v || live bs v) with
    | true => some { tmps := keepT L.keep s, boxes := bs }
    | false => none

def iter (L : LoopSpec) (f : St → Tree (Ex × St)) : Nat → St → Tree (Ex × St)
  | 0, _ => .stuck
  | n + 1, s => (f s).bind fun (e, s') => match restrict L s' with
    | none => .stuck
    | some s'' => match e with
      | .normal => iter L f n s''
      | e => .leaf (e, s'')

/-- What a loop leaves, put back into the whole state. -/
def rejoin (L : LoopSpec) (W : List Nat) (s s1 : St) : St :=
  let out := s.boxes.filter fun (b, _) => !(memN b L.boxes)
  { tmps := s1.tmps ++ s.tmps.map (fun (t, v) => (t, match !(memN t W) && !(memN t L.keep) && live out v with | true => v | false => .undef)),
    boxes := s1.boxes.map (fun (b, _, B) => (b, true, B)) ++ out }

def leaves (id : Nat) : Ex → Ex
  | .exit j => match Nat.beq j id with
    | true => .normal
    | false => .exit j
  | e => e

def ev (C : Ctx) : Code → St → Tree (Ex × St)
  | .skip, s => .leaf (.normal, s)
  | .region _ ops draw, s => match draw || ops.toList.any (·.guard.isSome) with
    | false => (runOps C ops.toList s).bind fun s' => .leaf (.normal, s')
    | true => (match draw with
        | true => runDraw C ops.toList true s
        | false => orElse (runDraw C ops.toList false s) (runBr C ops.toList ops.toList s)).bind fun s' => .leaf (.normal, s')
  | .seq a b, s => (ev C a s).bind fun (e, s') => match e with
    | .normal => ev C b s'
    | e => .leaf (e, s')
  | .cond c a b, s => match s.eval c with
    | .val .bool x => remarkT s (match C.dec with
        | true => pickT true x (ev C a s.clean) (ev C b s.clean)
        | false => fork x (dedupN (writes a ++ writes b)) s.clean (ev C a s.clean) (ev C b s.clean))
    | _ => .stuck
  | .block id (.loop body), s => match C.Λ id with
    | none => .stuck
    | some L => match promote s L.prom with
      | none => .stuck
      | some s0 => match restrict L s0, L.prom.all fun p => memN p.1 (writes body) with
        | none, _ => .stuck
        | some _, false => .stuck
        | some s1, true => (L.sum s1).bind fun (e, s2) => .leaf (leaves id e, rejoin L (writes body) s0 s2)
  | .block id c, s => (ev C c s).bind fun (e, s') => .leaf (leaves id e, s')
  | .scope c, s => ev C c s
  | .label _, s => .leaf (.normal, s)
  | .exit id, s => .leaf (.exit id, s)
  | .ret, s => .leaf (.ret, s)
  | _, _ => .stuck

/-! Functions -/

def resArg (C : Ctx) (s : St) : ResultVar → Option Arg
  | .tmp t => some (s.arg (.tmp t))
  | .cell a t => match C.τ t with
    | some i => match loadEff i.g (s.arg (.tmp a)) with
      | some e => some (e.av, none)
      | none => none
    | none => none

def resArgs (C : Ctx) (s : St) : List ResultVar → Option (List Arg)
  | [] => some []
  | r :: l => match resArg C s r, resArgs C s l with
    | some a, some as => some (a :: as)
    | _, _ => none

def number {α : Type} : Nat → List α → List (Nat × α)
  | _, [] => []
  | n, v :: l => (n, v) :: number (n + 1) l

def evRes (C : Ctx) (fn : Func) (res : List GTy) : Ex × St → Tree (dens res)
  | (.exit _, _) => .stuck
  | (_, s') => match resArgs C s' fn.results.toList with
      | none => .stuck
      | some as => match takes res as with
        | none => .stuck
        | some (x, _) => .leaf x

/-- A function, from typed arguments to typed results. -/
def evFn (C : Ctx) (fn : Func) (args : List AV) (res : List GTy) : Tree (dens res) :=
  match fn.body with
  | none => .stuck
  | some body => match (writes body).all (fun t => Nat.blt t fn.ntmps) with
    | false => .stuck
    | true => (ev C body { tmps := number 0 args, boxes := [] }).bind (evRes C fn res)
end Go.Ev
