/- The run itself: what each operation comes to. -/
import Derived.Test.YtikmamcbngbipaaGreatDoorEB
namespace Go.Proofs.YtikmamcbngbipaaGreatDoor
namespace Ev
noncomputable section

def ofS : Value → Option AV
  | .bool b => some (.bool b)
  | .int k n => some (.int k n)
  | .string s => some (.str s.data.toList)
  | .pointer none => some .nilp
  | .slice none 0 0 => some .nils
  | .map none => some .nilm
  | .nilFunc => some .nilf
  | .nilIface => some .nili
  | _ => none
def ofSs : List Value → Option (List AV)
  | [] => some []
  | v :: l => match ofS v, ofSs l with
    | some a, some b => some (a :: b)
    | _, _ => none
def ofA : Value → Option AV
  | .agg cs => match ofSs cs.toList with
    | some l => some (.agg l)
    | none => none
  | v => ofS v
def ofAs : List Value → Option (List AV)
  | [] => some []
  | v :: l => match ofA v, ofAs l with
    | some a, some b => some (a :: b)
    | _, _ => none
def ofV : Value → Option AV
  | .tuple vs => match ofAs vs.toList with
    | some l => some (.tup l)
    | none => none
  | v => ofA v

/-- A frame's slots. -/
structure Fr where
  t : T AV
  sz : Nat
  g : Nat → Option Nat
def Fr.get (f : Fr) (i : Nat) : Option AV := match Nat.blt i f.sz with
  | true => some (f.t.get i)
  | false => none
def Fr.put (f : Fr) (dst : Option Nat) (v : AV) : Option Fr := match dst with
  | none => some f
  | some d => match Nat.blt d f.sz with
    | true => some ⟨T.set 9 f.t d v, f.sz, f.g⟩
    | false => none
def ev (f : Fr) : Operand → Option AV
  | .tmp t => f.get t
  | .const v => ofV v
  | .global g => match f.g g with
    | some id => some (.ptr id 0)
    | none => none
  | .func g => some (.fn (.func g) [] [])
def evs (f : Fr) : List Operand → Option (List AV)
  | [] => some []
  | x :: l => match ev f x, evs f l with
    | some a, some b => some (a :: b)
    | _, _ => none

/-- A natural number brought to its figures. -/
def forceNat {α : Type} (m : Nat) (K : Nat → α) : α := match m with
  | 0 => K 0
  | p + 1 => K (p + 1)
theorem forceNat_eq {α : Type} (m : Nat) (K : Nat → α) : forceNat m K = K m := by cases m <;> rfl
def force {α : Type} (v : AV) (K : AV → α) : α := match v with
  | .int k (.ofNat m) => forceNat m fun m' => K (.int k (.ofNat m'))
  | .ptr id off => forceNat off fun off' => K (.ptr id off')
  | v => K v
theorem force_eq {α : Type} (v : AV) (K : AV → α) : force v K = K v := by
  unfold force; split <;> simp [forceNat_eq]

def dep (n : Nat) : Nat := n.log2 + 1
theorem lt_dep (n : Nat) : n < 2 ^ dep n := Nat.lt_log2_self

def cellsOf : AV → List AV
  | .agg l => l
  | v => [v]
def AV.plain : AV → Bool
  | .agg _ | .tup _ => false
  | _ => true

def Heap.load (H : Heap) (id off : Nat) : Option AV := match H.get id with
  | some (.cells t n _) => match Nat.blt off n with
    | true => some (t.get off)
    | false => none
  | _ => none
def Heap.loads (H : Heap) (id off n : Nat) : Option (List AV) := match H.get id with
  | some (.cells t m _) => match Nat.ble (off + n) m with
    | true => some (t.list off n)
    | false => none
  | _ => none
def Heap.stores (H : Heap) (id off : Nat) (l : List AV) : Option Heap := match H.get id with
  | some (.cells t m ty) => match Nat.ble (off + l.length) m, l.all AV.plain with
    | true, true => some (H.put id (.cells (T.lay (dep m) t off l) m ty))
    | _, _ => none
  | _ => none

/-- What an operation that turns nothing comes to: a value, or a new block, named by its number. -/
inductive Out where
  | val (v : AV)
  | new (k : ABlk) (n : Nat) (v : Nat → AV)

def fwrap (k : IntKind) (n : Int) : Int := match n with
  | .ofNat m => match k with
    | .i64 => match Nat.ble m 9223372036854775807 with
      | true => .ofNat m
      | false => k.wrap (.ofNat m)
    | .u64 => .ofNat (m % 18446744073709551616)
    | .u32 => .ofNat (m % 4294967296)
    | .u8 => .ofNat (m % 256)
    | k => k.wrap (.ofNat m)
  | n => k.wrap n

def bitsOf (k : IntKind) (f : Nat → Nat → Nat) (x y : Int) : Option AV := match x, y with
  | .ofNat a, .ofNat b => match Nat.blt a (2 ^ k.bits), Nat.blt b (2 ^ k.bits) with
    | true, true => some (.int k (fwrap k (.ofNat (f a b))))
    | _, _ => none
  | _, _ => none

def ilt : Int → Int → Bool
  | .ofNat a, .ofNat b => Nat.blt a b
  | .negSucc _, .ofNat _ => true
  | .ofNat _, .negSucc _ => false
  | .negSucc a, .negSucc b => Nat.blt b a
def ieq : Int → Int → Bool
  | .ofNat a, .ofNat b => Nat.beq a b
  | .negSucc a, .negSucc b => Nat.beq a b
  | _, _ => false

def abInt (op : BinOp) (k : IntKind) (x y : Int) : Option AV := match op with
  | .add => some (.int k (fwrap k (x + y)))
  | .sub => some (.int k (fwrap k (x - y)))
  | .mul => some (.int k (fwrap k (x * y)))
  | .quo => match ieq y 0 with
    | true => none
    | false => some (.int k (k.wrap (x.tdiv y)))
  | .rem => match ieq y 0 with
    | true => none
    | false => some (.int k (x.tmod y))
  | .and => bitsOf k Nat.land x y
  | .or => bitsOf k Nat.lor x y
  | .xor => bitsOf k Nat.xor x y
  | .andNot => bitsOf k (fun a b => Nat.xor a (Nat.land a b)) x y
  | .eql => some (.bool (ieq x y))
  | .neq => some (.bool (!ieq x y))
  | .lss => some (.bool (ilt x y))
  | .leq => some (.bool (!ilt y x))
  | .gtr => some (.bool (ilt y x))
  | .geq => some (.bool (!ilt x y))
  | .shl => match ilt y 0 with
    | true => none
    | false => some (.int k (fwrap k (x * 2 ^ (min y.toNat k.bits))))
  | .shr => match ilt y 0 with
    | true => none
    | false => match x with
      | .ofNat a => some (.int k (.ofNat (a / 2 ^ (min y.toNat k.bits))))
      | _ => none

def beqs : List UInt8 → List UInt8 → Bool
  | [], [] => true
  | a :: x, b :: y => match Nat.beq a.toNat b.toNat with
    | true => beqs x y
    | false => false
  | _, _ => false

def abStr (op : BinOp) (x y : List UInt8) : Option AV := match op with
  | .add => match Nat.ble (x.length + y.length) 1000000 with
    | true => some (.str (x ++ y))
    | false => none
  | .eql => some (.bool (beqs x y))
  | .neq => some (.bool (!beqs x y))
  | _ => none

/-- Equal, where the kernel can tell: one thing of the two is nil, or both are plain. -/
def aeq (P : Program) (t : TypeId) : AV → AV → Option Bool
  | .bool a, .bool b => match P.underlying t with
    | some .bool => some (a == b)
    | _ => none
  | .nilp, .nilp => match P.underlying t with
    | some (.pointer _) => some true
    | _ => none
  | .nilp, .ptr _ _ | .ptr _ _, .nilp => match P.underlying t with
    | some (.pointer _) => some false
    | _ => none
  | .nils, .nils => match P.underlying t with
    | some (.slice _) => some true
    | _ => none
  | .nils, .slice _ _ _ _ | .nils, .osl _ _ _ _ _ | .slice _ _ _ _, .nils | .osl _ _ _ _ _, .nils => match P.underlying t with
    | some (.slice _) => some false
    | _ => none
  | .nilm, .nilm => match P.underlying t with
    | some (.map _ _) => some true
    | _ => none
  | .nilm, .map _ | .map _, .nilm => match P.underlying t with
    | some (.map _ _) => some false
    | _ => none
  | .nilf, .nilf => match P.underlying t with
    | some (.func _ _ _) => some true
    | _ => none
  | .nilf, .fn _ _ _ | .fn _ _ _, .nilf => match P.underlying t with
    | some (.func _ _ _) => some false
    | _ => none
  | .nili, .iface _ _ | .iface _ _, .nili => match P.underlying t with
    | some (.interface _) => some false
    | _ => none
  | _, _ => none

def abin (P : Program) (op : BinOp) (t : TypeId) (lit : Bool) (x y : AV) : Option AV := match x, y with
  | .int k a, .int k' b => match k == k' || op == .shl || op == .shr with
    | true => abInt op k a b
    | false => none
  | .str a, .str b => abStr op a b
  | .nili, .nili => match lit, P.underlying t with
    | true, some (.interface _) => match op with
      | .eql => some (.bool true)
      | .neq => some (.bool false)
      | _ => none
    | _, _ => none
  | x, y => match op with
    | .eql => match aeq P t x y with
      | some b => some (.bool b)
      | none => none
    | .neq => match aeq P t x y with
      | some b => some (.bool (!b))
      | none => none
    | _ => none

def isLit : Operand → Bool
  | .const _ => true
  | _ => false

def aun (op : UnOp) (x : AV) : Option AV := match op, x with
  | .not, .bool b => some (.bool !b)
  | .neg, .int k n => some (.int k (fwrap k (0 - n)))
  | .xor, .int k (.ofNat n) => match k.signed, Nat.blt n (2 ^ k.bits) with
    | false, true => some (.int k (.ofNat (2 ^ k.bits - 1 - n)))
    | _, _ => none
  | _, _ => none

def aggOf (P : Program) (t : TypeId) : Option Bool := match P.underlying t with
  | some (.struct _) | some (.array _ _) => some true
  | some _ => some false
  | none => none
def sizeA (P : Program) (t : TypeId) : Option Nat := match P.info? t with
  | some i => some i.size
  | none => none
def bytesA (P : Program) (t : TypeId) : Option Nat := match P.info? t with
  | some i => some i.bytes
  | none => none
def zeroA (P : Program) (t : TypeId) : Option AV := match P.info? t with
  | some i => match i.zero with
    | some z => ofA z
    | none => none
  | none => none

def partA (P : Program) (t : TypeId) (l : List AV) (off : Nat) : Option AV := match aggOf P t, sizeA P t with
  | some true, some s => some (.agg ((l.drop off).take s))
  | some false, _ => l[off]?
  | _, _ => none

def loadA (P : Program) (t : TypeId) (H : Heap) (id off : Nat) : Option AV := match aggOf P t, sizeA P t with
  | some true, some s => match H.loads id off s with
    | some l => some (.agg l)
    | none => none
  | some false, _ => H.load id off
  | _, _ => none

/-- Cells turned from a place on. -/
def setAt (l : List AV) (off : Nat) (vs : List AV) : List AV := l.take off ++ vs ++ l.drop (off + vs.length)
def fillA (place : Nat → Option (Nat × Nat)) (cells : List AV) : List (Nat × AV) → Option (List AV)
  | [] => some cells
  | (i, v) :: rest => match place i with
    | none => none
    | some (off, size) => match Nat.beq (cellsOf v).length size, Nat.ble (off + (cellsOf v).length) cells.length with
      | true, true => fillA place (setAt cells off (cellsOf v)) rest
      | _, _ => none
def evParts (f : Fr) : List (Nat × Operand) → Option (List (Nat × AV))
  | [] => some []
  | (i, x) :: l => match ev f x, evParts f l with
    | some a, some b => some ((i, a) :: b)
    | _, _ => none
def placeOf (P : Program) (fields : Array Field) (i : Nat) : Option (Nat × Nat) := match fields[i]? with
  | some f => match sizeA P f.type with
    | some s => some (f.offset, s)
    | none => none
  | none => none
def sized (P : Program) (fields : List Field) : Bool := fields.all fun f => (sizeA P f.type).isSome

def reps (z : List AV) : Nat → List AV
  | 0 => []
  | n + 1 => z ++ reps z n
def treeOf (z : List AV) (n : Nat) : T AV := match z with
  | [v] => .leaf v
  | z => T.lay (dep (n * z.length)) (.leaf default) 0 (reps z n)

/-- Base, length of a slice. -/
def sliceOf : AV → Option (Option (Nat × Nat) × Nat)
  | .nils => some (none, 0)
  | .slice id off len _ => some (some (id, off), len)
  | .osl id _ off len _ => some (some (id, off), len)
  | _ => none

def boundA (x : Option AV) (d : Nat) : Option Nat := match x with
  | none => some d
  | some (.int _ (.ofNat n)) => some n
  | _ => none
def evO (f : Fr) : Option Operand → Option (Option AV)
  | none => some none
  | some x => match ev f x with
    | some v => some (some v)
    | none => none

def mxOk : Option AV → Option AV → Bool
  | some _, none => false
  | _, _ => true
/-- The bounds of a cut: l, h, m. -/
def boundsA (mx hi lo : Option AV) (len cap : Nat) : Option (Nat × Nat × Nat) := match boundA mx cap, boundA hi len, boundA lo 0 with
  | some m, some h, some l => match Nat.ble l h && Nat.ble h m && Nat.ble m cap && mxOk mx hi with
    | true => some (l, h, m)
    | false => none
  | _, _, _ => none
def cutA (id off size l h m : Nat) : AV := match Nat.beq m l with
  | true => .slice id off (h - l) (m - l)
  | false => .slice id (off + l * size) (h - l) (m - l)
/-- A row that goes on bears at least so many. -/
def capOf (H : Heap) (id off len k : Nat) : Nat := match H.get id with
  | some (.cells _ m _) => match Nat.ble len ((m - off) / k) with
    | true => (m - off) / k
    | false => len
  | _ => len
def sliceA (P : Program) (t : TypeId) (x : AV) (lo hi mx : Option AV) (H : Heap) : Option AV := match P.underlying t, x with
  | some .string, .str s => match mx, boundsA none hi lo s.length s.length with
    | none, some (l, h, _) => some (.str ((s.drop l).take (h - l)))
    | _, _ => none
  | some (.slice e), .nils => match boundsA mx hi lo 0 0, sizeA P e with
    | some _, some _ => some .nils
    | _, _ => none
  | some (.slice e), .slice id off len cap => match boundsA mx hi lo len cap, sizeA P e with
    | some (l, h, m), some size => some (cutA id off size l h m)
    | _, _ => none
  | some (.slice e), .osl id off0 off len k => match boundsA mx hi lo len (capOf H id off len k), sizeA P e with
    | some (l, h, m), some size => match Nat.beq size k, mx with
      | true, none => match l with
        | 0 => some (.osl id off0 off h k)
        | l + 1 => some (.osl id off (off + (l + 1) * k) (h - (l + 1)) k)
      | true, some _ => match Nat.blt 0 len with
        | true => some (cutA id off size l h m)
        | false => none
      | false, _ => none
    | _, _ => none
  | some (.array n e), .ptr id off => match boundsA mx hi lo n n, sizeA P e with
    | some (l, h, m), some size => some (cutA id off size l h m)
    | _, _ => none
  | _, _ => none

def strOf : List AV → Option (List UInt8)
  | [] => some []
  | .int .u8 n :: l => match strOf l with
    | some s => some (UInt8.ofNat n.toNat :: s)
    | none => none
  | _ => none
def bytesOf (l : List UInt8) : List AV := l.map fun b => .int .u8 (.ofNat b.toNat)

def convA (P : Program) (src dst : TypeId) (x : AV) (H : Heap) : Option Out := match P.underlying src, P.underlying dst, x with
  | some (.int _), some (.int k), .int _ n => some (.val (.int k (fwrap k n)))
  | some .string, some .string, .str s => some (.val (.str s))
  | some (.slice e), some .string, x => match P.underlying e, sliceOf x with
    | some (.int .u8), some (none, _) => some (.val (.str []))
    | some (.int .u8), some (some (id, off), len) => match len with
      | 0 => some (.val (.str []))
      | len => match H.loads id off len with
        | some l => match strOf l with
          | some s => some (.val (.str s))
          | none => none
        | none => none
    | _, _ => none
  | some .string, some (.slice e), .str s => match P.underlying e with
    | some (.int .u8) => some (.new (.cells (T.lay (dep s.length) (.leaf (.int .u8 0)) 0 (bytesOf s)) s.length e) s.length fun id => .osl id 0 0 s.length 1)
    | _ => none
  | _, _, _ => none

def beqI (a b : AV) : Option Bool := match a, b with
  | .int k x, .int k' y => match k == k' with
    | true => some (ieq x y)
    | false => none
  | _, _ => none
/-- Two keys: numbers, texts, or structs of numbers. -/
def beqIs : List AV → List AV → Option Bool
  | [], [] => some true
  | a :: x, b :: y => match beqI a b with
    | some true => beqIs x y
    | some false => some false
    | none => none
  | _, _ => none
def intKey (P : Program) (t : TypeId) : Bool := match P.underlying t with
  | some (.int _) => true
  | _ => false
def intFields (P : Program) : Nat → List Field → Bool
  | _, [] => true
  | i, f :: l => match intKey P f.type && f.name != "_" && Nat.beq f.offset i with
    | true => intFields P (i + 1) l
    | false => false
def keyEq (P : Program) (t : TypeId) (a b : AV) : Option Bool := match a, b with
  | .int k x, .int k' y => match intKey P t, k == k' with
    | true, true => some (ieq x y)
    | _, _ => none
  | .str x, .str y => match P.underlying t with
    | some .string => some (beqs x y)
    | _ => none
  | .agg x, .agg y => match P.underlying t with
    | some (.struct fs) => match intFields P 0 fs.toList && Nat.beq x.length fs.size && Nat.beq y.length fs.size && !P.stoodInHeld t with
      | true => beqIs x y
      | false => none
    | _ => none
  | _, _ => none
def idxA (P : Program) (t : TypeId) (k : AV) : List (AV × AV × Nat) → Nat → Option (Option Nat)
  | [], _ => some none
  | e :: l, i => match keyEq P t k e.1 with
    | some true => some (some i)
    | some false => idxA P t k l (i + 1)
    | none => none
/-- A key whose kind is known to serve. -/
def keyOk (P : Program) (t : TypeId) (k : AV) : Bool := match k with
  | .int _ _ => intKey P t
  | .str _ => match P.underlying t with
    | some .string => true
    | _ => false
  | .agg x => match P.underlying t with
    | some (.struct fs) => intFields P 0 fs.toList && Nat.beq x.length fs.size
    | _ => false
  | _ => false
def lookA (P : Program) (t : TypeId) (m k : AV) (ok : Bool) (H : Heap) : Option AV := match P.underlying t with
  | some (.map kt et) => match keyOk P kt k, zeroA P et with
    | true, some z =>
      let es := match m with
        | .nilm => some []
        | .map id => match H.get id with
          | some (.map es _) => some es
          | _ => none
        | _ => none
      match es with
      | some es => match idxA P kt k es 0 with
        | some (some i) => match es[i]? with
          | some e => some (if ok then .tup [e.2.1, .bool true] else e.2.1)
          | none => none
        | some none => some (if ok then .tup [z, .bool false] else z)
        | none => none
      | none => none
    | _, _ => none
  | _ => none

def assertA (P : Program) (x : AV) (asserted : TypeId) (ok : Bool) : Option AV := match P.underlying asserted with
  | some (.interface want) => match x with
    | .nili => match ok, zeroA P asserted with
      | true, some z => some (.tup [z, .bool false])
      | _, _ => none
    | .iface t v => match P.info? t with
      | some i => match Instr.missingMethod want i.methods with
        | none => some (if ok then .tup [.iface t v, .bool true] else .iface t v)
        | some _ => match ok, zeroA P asserted with
          | true, some z => some (.tup [z, .bool false])
          | _, _ => none
      | none => none
    | _ => none
  | some _ => match x with
    | .nili => match ok, zeroA P asserted with
      | true, some z => some (.tup [z, .bool false])
      | _, _ => none
    | .iface t v => match Nat.beq t asserted with
      | true => some (if ok then .tup [v, .bool true] else v)
      | false => match ok, zeroA P asserted with
        | true, some z => some (.tup [z, .bool false])
        | _, _ => none
    | _ => none
  | none => none

def lenA (P : Program) (t : TypeId) (x : AV) (H : Heap) : Option AV := match P.underlying t, x with
  | some .string, .str s => some (.int .i64 (.ofNat s.length))
  | some (.array n _), _ => some (.int .i64 (.ofNat n))
  | some (.slice _), .nils => some (.int .i64 0)
  | some (.slice _), .slice _ _ n _ => some (.int .i64 (.ofNat n))
  | some (.slice _), .osl _ _ _ n _ => some (.int .i64 (.ofNat n))
  | some (.map _ _), .nilm => some (.int .i64 0)
  | some (.map _ _), .map id => match H.get id with
    | some (.map es _) => some (.int .i64 (.ofNat es.length))
    | _ => none
  | _, _ => none

def minA (mx : Bool) : AV → List AV → Option AV
  | v, [] => some v
  | .int k x, .int _ y :: l => minA mx (.int k (if (if mx then ilt x y else ilt y x) then y else x)) l
  | _, _ => none

/-- An operation that turns nothing. -/
def fop (P : Program) (f : Fr) (o : Oper) (H : Heap) : Option Out := match o.op with
  | .move x => match ev f x with
    | some v => some (.val v)
    | none => none
  | .assign x => match ev f x with
    | some v => some (.val v)
    | none => none
  | .pick c a b => match ev f c with
    | some (.bool true) => match ev f a with
      | some v => some (.val v)
      | none => none
    | some (.bool false) => match ev f b with
      | some v => some (.val v)
      | none => none
    | _ => none
  | .alloc t => match zeroA P t, sizeA P t with
    | some z, some s => match Nat.beq (cellsOf z).length s with
      | true => some (.new (.cells (T.lay (dep s) (.leaf default) 0 (cellsOf z)) s t) s fun id => .ptr id 0)
      | false => none
    | _, _ => none
  | .box t x => match ev f x with
    | some v => some (.new (.cells (T.lay (dep (cellsOf v).length) (.leaf default) 0 (cellsOf v)) (cellsOf v).length t) (cellsOf v).length fun id => .ptr id 0)
    | none => none
  | .build t parts => match P.underlying t, zeroA P t, evParts f parts.toList with
    | some (.struct fields), some z, some ps => match sized P fields.toList with
      | true => match fillA (placeOf P fields) (cellsOf z) ps with
        | some l => some (.val (.agg l))
        | none => none
      | false => none
    | some (.array _ e), some z, some ps => match sizeA P e with
      | some s => match fillA (fun i => some (i * s, s)) (cellsOf z) ps with
        | some l => some (.val (.agg l))
        | none => none
      | none => none
    | _, _, _ => none
  | .buildSlice t len parts => match P.underlying t, evParts f parts.toList with
    | some (.slice e), some ps => match sizeA P e, zeroA P e with
      | some s, some z => match Nat.blt 0 s && Nat.beq (cellsOf z).length s && Nat.ble (len * s) 16777216 with
        | true => match fillA (fun i => some (i * s, s)) (reps (cellsOf z) len) ps with
          | some l => some (.new (.cells (T.lay (dep l.length) (.leaf default) 0 l) l.length e) l.length fun id => .slice id 0 len len)
          | none => none
        | false => none
      | _, _ => none
    | _, _ => none
  | .load t a => match ev f a with
    | some (.ptr id off) => match loadA P t H id off with
      | some v => some (.val v)
      | none => none
    | _ => none
  | .nilCheck x => match ev f x with
    | some (.ptr id off) => some (.val (.ptr id off))
    | some (.iface t v) => some (.val (.iface t v))
    | some (.fn (.func g) a b) => some (.val (.fn (.func g) a b))
    | _ => none
  | .binOp op t x y _ => match ev f x, ev f y with
    | some a, some b => match abin P op t (isLit x || isLit y) a b with
      | some v => some (.val v)
      | none => none
    | _, _ => none
  | .unOp op _ x => match ev f x with
    | some a => match aun op a with
      | some v => some (.val v)
      | none => none
    | none => none
  | .convert src dst x => match ev f x with
    | some v => convA P src dst v H
    | none => none
  | .makeInterface t x => match P.underlying t, ev f x with
    | some (.interface _), _ => none
    | some _, some v => some (.val (.iface t v))
    | _, _ => none
  | .makeFunc fn first captured => match evs f first.toList, evs f captured.toList with
    | some a, some b => some (.val (.fn fn a b))
    | _, _ => none
  | .makeMap _t none => some (.new (.map [] 0) 0 fun id => .map id)
  | .makeMap t (some r) => match P.underlying t, ev f r with
    | some (.map _ _), some (.int _ _) => some (.new (.map [] 0) 0 fun id => .map id)
    | _, _ => none
  | .makeSlice t l c => match P.underlying t, ev f l, ev f c with
    | some (.slice e), some (.int _ (.ofNat n)), some (.int _ (.ofNat m)) => match sizeA P e, zeroA P e, bytesA P e with
      | some s, some z, some by_ => match Nat.ble n m && Nat.ble m 1000000 && Nat.ble (by_ * m) 1000000000 && Nat.blt 0 s && Nat.beq (cellsOf z).length s with
        | true => some (.new (.cells (treeOf (cellsOf z) m) (m * s) e) (m * s) fun id => .slice id 0 n m)
        | false => none
      | _, _, _ => none
    | _, _, _ => none
  | .slice t x lo hi mx => match ev f x, evO f lo, evO f hi with
    | some v, some l, some h => match evO f mx with
      | some m => match sliceA P t v l h m H with
        | some r => some (.val r)
        | none => none
      | none => none
    | _, _, _ => none
  | .fieldAddr t x i => match P.underlying t, ev f x with
    | some (.struct fields), some (.ptr id off) => match fields[i]? with
      | some g => match sizeA P g.type with
        | some (_ + 1) => some (.val (.ptr id (off + g.offset)))
        | _ => none
      | none => none
    | _, _ => none
  | .field t x i => match P.underlying t, ev f x with
    | some (.struct fields), some (.agg l) => match fields[i]? with
      | some g => match partA P g.type l g.offset with
        | some v => some (.val v)
        | none => none
      | none => none
    | _, _ => none
  | .indexAddr t x ix => match P.underlying t, ev f x, ev f ix with
    | some (.array n e), some (.ptr id off), some (.int _ (.ofNat i)) => match sizeA P e, Nat.blt i n with
      | some s, true => some (.val (.ptr id (off + i * s)))
      | _, _ => none
    | some (.slice e), some v, some (.int _ (.ofNat i)) => match sizeA P e, sliceOf v with
      | some s, some (some (id, off), n) => match Nat.blt i n with
        | true => some (.val (.ptr id (off + i * s)))
        | false => none
      | _, _ => none
    | _, _, _ => none
  | .index t x ix => match P.underlying t, ev f x, ev f ix with
    | some (.array n e), some (.agg l), some (.int _ (.ofNat i)) => match sizeA P e, Nat.blt i n with
      | some s, true => match partA P e l (i * s) with
        | some v => some (.val v)
        | none => none
      | _, _ => none
    | some .string, some (.str s), some (.int _ (.ofNat i)) => match s[i]? with
      | some b => some (.val (.int .u8 (.ofNat b.toNat)))
      | none => none
    | _, _, _ => none
  | .lookup t x ix ok => match ev f x, ev f ix with
    | some m, some k => match lookA P t m k ok H with
      | some v => some (.val v)
      | none => none
    | _, _ => none
  | .typeAssert x _ asserted ok => match ev f x with
    | some v => match assertA P v asserted ok with
      | some r => some (.val r)
      | none => none
    | none => none
  | .extract x i => match ev f x with
    | some (.tup l) => match l[i]? with
      | some v => some (.val v)
      | none => none
    | _ => none
  | .call { callee := .builtin .len, args, argTypes } => match args.toList, argTypes.toList with
    | [x], t :: _ => match ev f x with
      | some v => match lenA P t v H with
        | some r => some (.val r)
        | none => none
      | none => none
    | _, _ => none
  | .call { callee := .builtin .min, args, argTypes := _ } => match evs f args.toList with
    | some (v :: l) => match minA false v l with
      | some r => some (.val r)
      | none => none
    | _ => none
  | .call { callee := .builtin .max, args, argTypes := _ } => match evs f args.toList with
    | some (v :: l) => match minA true v l with
      | some r => some (.val r)
      | none => none
    | _ => none
  | _ => none

/-- Does what it comes to hang on the memory? -/
def hdep : Op → Bool
  | .load _ _ | .lookup _ _ _ _ | .convert _ _ _ | .slice _ _ _ _ _ | .call _ => true
  | _ => false

/-- The cells of what is appended or copied: n elements of a size. -/
def srcA (H : Heap) (size : Nat) : AV → Option (List AV × Nat)
  | .str s => some (bytesOf s, s.length)
  | v => match sliceOf v with
    | some (none, n) => some ([], n)
    | some (some _, 0) => some ([], 0)
    | some (some (id, off), n) => match H.loads id off (n * size) with
      | some l => some (l, n)
      | none => none
    | none => none

def newCells (H : Heap) (l : List AV) (e : TypeId) : Option Heap := match Nat.blt H.next 65536 with
  | true => some (H.add (.cells (T.lay (dep l.length) (.leaf default) 0 l) l.length e))
  | false => none

/-- The cells of a slice that goes on. -/
def growT (off m old all : Nat) (t : T AV) (xs : List AV) : T AV := match off with
  | 0 => T.lay (dep (m + xs.length)) t m xs
  | off + 1 => T.lay (dep all) (.leaf default) 0 (t.list (off + 1) old ++ xs)
def appendA (P : Program) (t u : TypeId) (s x : AV) (H : Heap) : Option (AV × Heap) := match P.underlying t with
  | some (.slice e) => match sizeA P e, bytesA P e, zeroA P e with
    | some (k + 1), some by_, some z =>
      let size := k + 1
      let numbers := match P.underlying u with
        | some (.slice _) => false
        | some .string => false
        | _ => true
      match srcA H size x, numbers || !Nat.beq (cellsOf z).length size with
      | some (xs, n), false => match s with
        | .nils => match n with
          | 0 => some (.nils, H)
          | n => match Nat.ble (n * by_) 1000000000 && Nat.ble n 1000000 && Nat.beq xs.length (n * size), newCells H xs e with
            | true, some H' => some (.osl H.next 0 0 n size, H')
            | _, _ => none
        | .slice id off len cap => match n with
          | 0 => match Nat.ble len cap with
            | true => some (.slice id off len cap, H)
            | false => none
          | n => match Nat.ble (len + n) cap with
            | true => match H.stores id (off + len * size) xs with
              | some H' => some (.slice id off (len + n) cap, H')
              | none => none
            | false => match (match len with | 0 => some [] | len => H.loads id off (len * size)) with
              | some old => match Nat.ble ((len + n) * by_) 1000000000 && Nat.ble (len + n) 1000000 && Nat.beq (old ++ xs).length ((len + n) * size), newCells H (old ++ xs) e with
                | true, some H' => some (.osl H.next 0 0 (len + n) size, H')
                | _, _ => none
              | none => none
        | .osl id off0 off len k' => match n with
          | 0 => some (.osl id off0 off len k', H)
          | n => match H.get id, Nat.beq k' size with
            | some (.cells t m ty), true => match Nat.ble (off + (len + n) * size) m with
              | true => match H.stores id (off + len * size) xs with
                | some H' => some (.osl id off0 off (len + n) size, H')
                | none => none
              | false => match Nat.beq (off + len * size) m && Nat.ble ((len + n) * by_) 1000000000 && Nat.ble (len + n) 1000000 && Nat.beq xs.length (n * size) && xs.all AV.plain && Nat.blt H.next 65536 && Nat.beq ty e with
                | true => some (.osl H.next 0 0 (len + n) size, (H.drop id).add (.cells (growT off m (len * size) ((len + n) * size) t xs) ((len + n) * size) e))
                | false => none
            | _, _ => none
        | _ => none
      | _, _ => none
    | _, _, _ => none
  | _ => none

def copyA (P : Program) (t : TypeId) (d x : AV) (H : Heap) : Option (AV × Heap) := match P.underlying t with
  | some (.slice e) => match sizeA P e, sliceOf d with
    | some size, some (base, dlen) =>
      let slen := match x with
        | .str s => some s.length
        | x => match sliceOf x with
          | some (_, n) => some n
          | none => none
      match slen with
      | some sl =>
        let n := min sl dlen
        match n with
        | 0 => some (.int .i64 0, H)
        | n =>
          let cells := match x with
            | .str s => match Nat.beq size 1 with
              | true => some (bytesOf (s.take n))
              | false => none
            | x => match sliceOf x with
              | some (some (id, off), _) => H.loads id off (n * size)
              | _ => none
          match base, cells with
          | some (id, off), some l => match H.stores id off l with
            | some H' => some (.int .i64 (.ofNat n), H')
            | none => none
          | _, _ => none
      | none => none
    | _, _ => none
  | _ => none

/-- The cells of a row, some of them noughts. -/
def clearT (z : List AV) (off m n size : Nat) (t : T AV) : T AV := match z, off, Nat.beq (n * size) m with
  | [v], 0, true => .leaf v
  | z, off, _ => T.lay (dep m) t off (reps z n)
def clearA (P : Program) (t : TypeId) (x : AV) (H : Heap) : Option Heap := match P.underlying t, x with
  | some (.slice e), x => match sliceOf x with
    | some (none, _) => some H
    | some (some _, 0) => some H
    | some (some (id, off), n) => match zeroA P e, sizeA P e, H.get id with
      | some z, some size, some (.cells t m ty) => match Nat.beq (cellsOf z).length size && (cellsOf z).all AV.plain && Nat.ble (off + n * size) m && Nat.blt 0 size with
        | true => some (H.put id (.cells (clearT (cellsOf z) off m n size t) m ty))
        | false => none
      | _, _, _ => none
    | none => none
  | some (.map _ _), .nilm => some H
  | some (.map _ _), .map id => match H.get id with
    | some (.map _ clock) => some (H.put id (.map [] clock))
    | _ => none
  | _, _ => none

def mapSet (P : Program) (t : TypeId) (m k v : AV) (H : Heap) : Option Heap := match P.underlying t, m with
  | some (.map kt _), .map id => match H.get id, keyOk P kt k with
    | some (.map es clock), true => match idxA P kt k es 0 with
      | some (some i) => match es[i]? with
        | some e => some (H.put id (.map (es.set i (k, v, e.2.2)) clock))
        | none => none
      | some none => some (H.put id (.map (es ++ [(k, v, clock)]) (clock + 1)))
      | none => none
    | _, _ => none
  | _, _ => none
def mapDel (P : Program) (t : TypeId) (m k : AV) (H : Heap) : Option Heap := match P.underlying t, m with
  | some (.map kt _), .nilm => match keyOk P kt k with
    | true => some H
    | false => none
  | some (.map kt _), .map id => match H.get id, keyOk P kt k with
    | some (.map es clock), true => match idxA P kt k es 0 with
      | some (some i) => some (H.put id (.map (es.eraseIdx i) clock))
      | some none => some (H.put id (.map es clock))
      | none => none
    | _, _ => none
  | _, _ => none

/-- The method behind an interface value: a function, the receiver. -/
def methodA (P : Program) (t : TypeId) (v : AV) (name : String) : Option (FuncId × AV) := match P.info? t with
  | some i => match i.methods.find? (·.name == name) with
    | some m => match m.path.toList, m.func, P.underlying t with
      | [], some (g, true), some (.pointer _) => some (g, v)
      | [], some (_, false), some (.pointer _) => none
      | [], some (g, false), some _ => some (g, v)
      | _, _, _ => none
    | none => none
  | none => none

def undefA : AV := .tup []

/-- A row of bytes that is marked as a text's goes on under a new number. -/
def markA (P : Program) (src dst : TypeId) (x : AV) (H : Heap) : Option (AV × Heap) := match P.underlying src, P.underlying dst with
  | some (.slice _), some (.slice e) => match P.underlying e, Nat.beq src dst && Nat.blt H.next 65536 with
    | some (.int .u8), true => match x with
      | .slice id off len cap => match H.get id with
        | some (.cells t m ty) => some (.slice H.next off len cap, (H.drop id).add (.cells t m ty))
        | _ => none
      | .osl id off0 off len k => match H.get id with
        | some (.cells t m ty) => some (.osl H.next off0 off len k, (H.drop id).add (.cells t m ty))
        | _ => none
      | _ => none
    | _, _ => none
  | _, _ => none

/-- An operation that may turn memory. -/
def aop (P : Program) (call : FuncId → List AV → Heap → Option (AV × Heap)) (f : Fr) (o : Oper) (H : Heap) : Option (AV × Heap) := match o.op with
  | .store t a x => match ev f a, ev f x with
    | some (.ptr id off), some v => match sizeA P t with
      | some s => match Nat.beq (cellsOf v).length s, H.stores id off (cellsOf v) with
        | true, some H' => some (undefA, H')
        | _, _ => none
      | none => none
    | _, _ => none
  | .mapUpdate t m k x => match ev f m, ev f k, ev f x with
    | some m, some k, some v => match mapSet P t m k v H with
      | some H' => some (undefA, H')
      | none => none
    | _, _, _ => none
  | .call { callee := .builtin .append, args, argTypes } => match args.toList, argTypes.toList with
    | [s, x], [t, u] => match ev f s, ev f x with
      | some s, some x => appendA P t u s x H
      | _, _ => none
    | _, _ => none
  | .call { callee := .builtin .copy, args, argTypes } => match args.toList, argTypes.toList with
    | [d, x], t :: _ => match ev f d, ev f x with
      | some d, some x => copyA P t d x H
      | _, _ => none
    | _, _ => none
  | .call { callee := .builtin .clear, args, argTypes } => match args.toList, argTypes.toList with
    | [x], t :: _ => match ev f x with
      | some x => match clearA P t x H with
        | some H' => some (undefA, H')
        | none => none
      | _ => none
    | _, _ => none
  | .call { callee := .builtin .delete, args, argTypes } => match args.toList, argTypes.toList with
    | [m, k], t :: _ => match ev f m, ev f k with
      | some m, some k => match mapDel P t m k H with
        | some H' => some (undefA, H')
        | none => none
      | _, _ => none
    | _, _ => none
  | .call { callee := .value x, args, argTypes := _ } => match ev f x, evs f args.toList with
    | some (.fn (.func g) first captured), some l => call g (first ++ (l ++ captured)) H
    | _, _ => none
  | .call { callee := .invoke r name, args, argTypes := _ } => match ev f r, evs f args.toList with
    | some (.iface t v), some l => match methodA P t v name with
      | some (g, recv) => call g (recv :: l) H
      | none => none
    | _, _ => none
  | .convert src dst x => match ev f x with
    | some v => markA P src dst v H
    | none => none
  | _ => none

/-- Is it one that may turn memory? -/
def isAct : Op → Bool
  | .convert src dst _ => Nat.beq src dst
  | .store _ _ _ | .mapUpdate _ _ _ _ => true
  | .call { callee := .builtin .len, .. } | .call { callee := .builtin .min, .. } | .call { callee := .builtin .max, .. } => false
  | .call _ => true
  | _ => false

def wantA (f : Fr) (ops : Array Oper) (o : Oper) : Option Bool := match o.guard with
  | none => some true
  | some (j, want) => match ops[j]? with
    | some g => match g.dst with
      | some d => match f.get d with
        | some (.bool b) => some (b == want)
        | some (.tup _) => some false
        | _ => none
      | none => none
    | none => none

/-- Operations one behind the other. -/
def seqA (P : Program) (call : FuncId → List AV → Heap → Option (AV × Heap)) (ops : Array Oper) : List Oper → Fr → Heap → Option (Fr × Heap)
  | [], f, H => some (f, H)
  | o :: l, f, H => match wantA f ops o with
    | some true => match isAct o.op with
      | false => match fop P f o H with
        | some (.val v) => force v fun v => match f.put o.dst v with
          | some f' => seqA P call ops l f' H
          | none => none
        | some (.new k _ v) => match Nat.blt H.next 65536, f.put o.dst (v H.next) with
          | true, some f' => seqA P call ops l f' (H.add k)
          | _, _ => none
        | none => none
      | true => match aop P call f o H with
        | some (v, H') => force v fun v => match f.put o.dst v with
          | some f' => seqA P call ops l f' H'
          | none => none
        | none => none
    | some false => match f.put o.dst undefA with
      | some f' => seqA P call ops l f' H
      | none => none
    | none => none
end
end Ev
end Go.Proofs.YtikmamcbngbipaaGreatDoor
