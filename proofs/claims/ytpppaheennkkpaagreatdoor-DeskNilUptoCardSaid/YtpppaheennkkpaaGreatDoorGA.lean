/- The same run in a form that the kernel makes with few steps: code put into numbers and paths ahead of time, memory handed on from step to step. -/
import Derived.Test.YtpppaheennkkpaaGreatDoorEA
import Derived.Test.YtpppaheennkkpaaGreatDoorFA
namespace Go.Proofs.YtpppaheennkkpaaGreatDoor
namespace Ev
noncomputable section

inductive Path where
  | e
  | z (p : Path)
  | o (p : Path)
def pathOf : Nat → Nat → Path
  | 0, _ => .e
  | d + 1, i => match i % 2 with
    | 0 => .z (pathOf d (i / 2))
    | _ => .o (pathOf d (i / 2))

abbrev HT := T (Option ABlk)
/-- A number brought to its figures. -/
def fN {β : Type} (m : Nat) (K : Nat → β) : β := Nat.rec (motive := fun _ => β) (K 0) (fun p _ => K p) (Nat.succ m)
def fB {β : Type} (b : Bool) (t f : β) : β := Bool.rec (motive := fun _ => β) f t b
def fI {β : Type} (n : Int) (K : Int → β) : β := Int.rec (motive := fun _ => β) (fun m => fN m fun m => K (.ofNat m)) (fun m => fN m fun m => K (.negSucc m)) n
def fBool {β : Type} (b : Bool) (K : Bool → β) : β := Bool.rec (motive := fun _ => β) (K false) (K true) b

namespace T
variable {α β : Type}
def getK (t : T α) : Path → (α → β) → β := T.rec (motive := fun _ => Path → (α → β) → β) (fun v _ K => K v)
  (fun _ _ L R p K => Path.rec (motive := fun _ => β) (L .e K) (fun q _ => L q K) (fun q _ => R q K) p) t
def setK (p : Path) : T α → α → (T α → β) → β := Path.rec (motive := fun _ => T α → α → (T α → β) → β) (fun _ v K => K (.leaf v))
  (fun _ S t v K => T.rec (motive := fun _ => β) (fun x => S (.leaf x) v fun l => K (.node l (.leaf x))) (fun l r _ _ => S l v fun l' => K (.node l' r)) t)
  (fun _ S t v K => T.rec (motive := fun _ => β) (fun x => S (.leaf x) v fun r => K (.node (.leaf x) r)) (fun l r _ _ => S r v fun r' => K (.node l r')) t) p
def getN (t : T α) : Nat → (α → β) → β := T.rec (motive := fun _ => Nat → (α → β) → β) (fun v _ K => K v)
  (fun _ _ L R i K => Nat.rec (motive := fun _ => β) (fN (Nat.div i 2) fun j => L j K) (fun _ _ => fN (Nat.div i 2) fun j => R j K) (Nat.mod i 2)) t
def setN (d : Nat) : T α → Nat → α → (T α → β) → β := Nat.rec (motive := fun _ => T α → Nat → α → (T α → β) → β) (fun _ _ v K => K (.leaf v))
  (fun _ S t i v K => Nat.rec (motive := fun _ => β)
    (fN (Nat.div i 2) fun j => T.rec (motive := fun _ => β) (fun x => S (.leaf x) j v fun l => K (.node l (.leaf x))) (fun l r _ _ => S l j v fun l' => K (.node l' r)) t)
    (fun _ _ => fN (Nat.div i 2) fun j => T.rec (motive := fun _ => β) (fun x => S (.leaf x) j v fun r => K (.node (.leaf x) r)) (fun l r _ _ => S r j v fun r' => K (.node l r')) t) (Nat.mod i 2)) d
/-- n cells from i on. -/
def listK (t : T α) (n : Nat) : Nat → (List α → β) → β := Nat.rec (motive := fun _ => Nat → (List α → β) → β) (fun _ K => K [])
  (fun _ S i K => getN t i fun v => fN (Nat.succ i) fun j => S j fun l => K (v :: l)) n
def layK (d : Nat) (l : List α) : T α → Nat → (T α → β) → β := List.rec (motive := fun _ => T α → Nat → (T α → β) → β) (fun t _ K => K t)
  (fun v _ S t i K => setN d t i v fun t => fN (Nat.succ i) fun j => S t j K) l
end T

def fL {β : Type} (l : List AV) (el : AV → (AV → β) → β) (K : List AV → β) : β :=
  List.rec (motive := fun _ => (List AV → β) → β) (fun K => K []) (fun v _ S K => el v fun v => S fun l => K (v :: l)) l K
def fS {β : Type} (l : List UInt8) (K : List UInt8 → β) : β :=
  List.rec (motive := fun _ => (List UInt8 → β) → β) (fun K => K []) (fun v _ S K => S fun l => K (v :: l)) l K
/-- A value brought to its figures, not what lies in it. -/
def fV0 {β : Type} (v : AV) (K : AV → β) : β := AV.casesOn (motive_1 := fun _ => β) v (fun b => fBool b fun b => K (.bool b)) (fun k n => fI n fun n => K (.int k n)) (fun l => fS l fun l => K (.str l))
  (fun id off => fN id fun id => fN off fun off => K (.ptr id off)) (K .nilp) (fun a b c d => fN a fun a => fN b fun b => fN c fun c => fN d fun d => K (.slice a b c d))
  (fun a b c d e => fN a fun a => fN b fun b => fN c fun c => fN d fun d => fN e fun e => K (.osl a b c d e)) (K .nils) (fun id => fN id fun id => K (.map id)) (K .nilm)
  (fun f a b => K (.fn f a b)) (K .nilf) (fun t v => K (.iface t v)) (K .nili) (fun l => K (.agg l)) (fun l => K (.tup l)) (fun i => K (.sym i))
def fV {β : Type} (v : AV) (K : AV → β) : β := AV.casesOn (motive_1 := fun _ => β) v (fun b => fBool b fun b => K (.bool b)) (fun k n => fI n fun n => K (.int k n)) (fun l => fS l fun l => K (.str l))
  (fun id off => fN id fun id => fN off fun off => K (.ptr id off)) (K .nilp) (fun a b c d => fN a fun a => fN b fun b => fN c fun c => fN d fun d => K (.slice a b c d))
  (fun a b c d e => fN a fun a => fN b fun b => fN c fun c => fN d fun d => fN e fun e => K (.osl a b c d e)) (K .nils) (fun id => fN id fun id => K (.map id)) (K .nilm)
  (fun f a b => fL a fV0 fun a => fL b fV0 fun b => K (.fn f a b)) (K .nilf) (fun t v => fV0 v fun v => K (.iface t v)) (K .nili) (fun l => fL l fV0 fun l => K (.agg l)) (fun l => fL l fV0 fun l => K (.tup l)) (fun i => K (.sym i))

/-- Where an operand comes from. -/
inductive Src where
  | slot (p : Path)
  | val (v : AV)
  | glob (g : Nat)
  | bad
inductive CV where
  | mov (x : Src)
  | pick (c a b : Src)
  | load1 (x : Src)
  | loadN (n : Nat) (x : Src)
  | add (k : Nat) (x : Src)
  | elemA (n size : Nat) (x i : Src)
  | elemS (size : Nat) (x i : Src)
  | nilc (x : Src)
  | bin (op : BinOp) (t : TypeId) (lit : Bool) (x y : Src)
  | ext (i : Nat) (x : Src)
  | lenS (x : Src)
  | old (o : Oper)
inductive CA where
  | store (s : Nat) (x y : Src)
  | callF (g : Nat) (args : List Src)
  | callV (x : Src) (args : List Src)
  | callI (r : Src) (name : String) (args : List Src)
  | old (o : Oper)
inductive Gd where
  | any
  | want (p : Path) (b : Bool)
  | bad
inductive Ds where
  | drop
  | slot (p : Path)
  | bad
inductive CI where
  | v (c : CV) (d : Ds) (g : Gd)
  | a (c : CA) (d : Ds) (g : Gd)
  | p (o : Oper) (d : Ds) (g : Gd)
  | l (o : Oper) (d : Ds) (g : Gd)
structure DI where
  c : CI
  i : Nat
  m : Nat
  h : Bool
inductive CC where
  | skip
  | ret
  | exit (id : Nat)
  | seq (a b : CC)
  | cond (c : Src) (a b : CC)
  | block (id : Nat) (c : CC)
  | loop (c : CC)
  | ops (l : List CI)
  | dfr (l : List CI) (x : Src) (args : List Src) (d : Ds) (g : Gd)
  | draw (l : List DI) (n : Nat) (ap : Option Nat) (ops : Array Oper)
  | more (c : Code)
  | bad
inductive CR where
  | tmp (p : Path)
  | cell (p : Path) (t : TypeId)
  | bad
inductive CF where
  | fn (sz d : Nat) (c : CC) (r : List CR)
  | bad

section comp
variable (P : Program) (sz : Nat)
def slotOf (t : Nat) : Option Path := match Nat.blt t sz with
  | true => some (pathOf 9 t)
  | false => none
def srcOf : Operand → Src
  | .tmp t => match slotOf sz t with
    | some p => .slot p
    | none => .bad
  | .const v => match ofV v with
    | some a => .val a
    | none => .bad
  | .global g => .glob g
  | .func g => .val (.fn (.func g) [] [])
def dsOf : Option Nat → Ds
  | none => .drop
  | some d => match slotOf sz d with
    | some p => .slot p
    | none => .bad
def gdOf (ops : Array Oper) (o : Oper) : Gd := match o.guard with
  | none => .any
  | some (j, want) => match ops[j]? with
    | some g => match g.dst with
      | some d => match slotOf sz d with
        | some p => .want p want
        | none => .bad
      | none => .bad
    | none => .bad
def binFast : BinOp → Bool
  | .quo | .rem | .andNot => false
  | _ => true
def cvOf (o : Oper) : CV := match o.op with
  | .move x => .mov (srcOf sz x)
  | .assign x => .mov (srcOf sz x)
  | .pick c a b => .pick (srcOf sz c) (srcOf sz a) (srcOf sz b)
  | .load t a => match aggOf P t, sizeA P t with
    | some false, _ => .load1 (srcOf sz a)
    | some true, some s => .loadN s (srcOf sz a)
    | _, _ => .old o
  | .fieldAddr t x i => match P.underlying t with
    | some (.struct fields) => match fields[i]? with
      | some g => match sizeA P g.type with
        | some (_ + 1) => .add g.offset (srcOf sz x)
        | _ => .old o
      | none => .old o
    | _ => .old o
  | .indexAddr t x ix => match P.underlying t with
    | some (.array n e) => match sizeA P e with
      | some s => .elemA n s (srcOf sz x) (srcOf sz ix)
      | none => .old o
    | some (.slice e) => match sizeA P e with
      | some s => .elemS s (srcOf sz x) (srcOf sz ix)
      | none => .old o
    | _ => .old o
  | .nilCheck x => .nilc (srcOf sz x)
  | .binOp op t x y _ => .bin op t (isLit x || isLit y) (srcOf sz x) (srcOf sz y)
  | .extract x i => .ext i (srcOf sz x)
  | .call { callee := .builtin .len, args, argTypes } => match args.toList, argTypes.toList with
    | [x], t :: _ => match P.underlying t with
      | some (.slice _) => .lenS (srcOf sz x)
      | _ => .old o
    | _, _ => .old o
  | _ => .old o
def caOf (o : Oper) : CA := match o.op with
  | .store t a x => match sizeA P t with
    | some s => .store s (srcOf sz a) (srcOf sz x)
    | none => .old o
  | .call { callee := .value (.func g), args, argTypes := _ } => .callF g (args.toList.map (srcOf sz))
  | .call { callee := .value x, args, argTypes := _ } => .callV (srcOf sz x) (args.toList.map (srcOf sz))
  | .call { callee := .invoke r name, args, argTypes := _ } => .callI (srcOf sz r) name (args.toList.map (srcOf sz))
  | _ => .old o
def ciOf (ops : Array Oper) (o : Oper) : CI := match isAct o.op with
  | true => .a (caOf P sz o) (dsOf sz o.dst) (gdOf sz ops o)
  | false => .v (cvOf P sz o) (dsOf sz o.dst) (gdOf sz ops o)
def apNat : Option Nat → Nat → Bool
  | none, _ => false
  | some ia, i => Nat.beq ia i
def dcOf (ops : Array Oper) (ap : Option Nat) (lt : Nat) (i : Nat) (o : Oper) : CI := match apNat ap i with
  | true => .p o (dsOf sz o.dst) (gdOf sz ops o)
  | false => match Nat.testBit lt i with
    | true => .l o (dsOf sz o.dst) (gdOf sz ops o)
    | false => ciOf P sz ops o
def diOf (ops : Array Oper) (ap : Option Nat) (lt : Nat) (bm : T Nat) : List Oper → Nat → List DI
  | [], _ => []
  | o :: l, i => ⟨dcOf P sz ops ap lt i o, i, bm.get i, hdep o.op⟩ :: diOf ops ap lt bm l (i + 1)
def ccOf (c : Code) : CC := Code.rec (motive := fun _ => CC) .skip
  (fun _ ops draw => match draw with
    | true => match orderly ops with
      | true => .draw (diOf P sz ops (appAt ops) (lateBits ops) (maskTree ops) ops.toList 0) ops.size (appAt ops) ops
      | false => .bad
    | false => match deferOf ops.toList with
      | none => .ops (ops.toList.map (ciOf P sz ops))
      | some (pre, o, x, args) => .dfr (pre.map (ciOf P sz ops)) (srcOf sz x) (args.map (srcOf sz)) (dsOf sz o.dst) (gdOf sz ops o))
  (fun _ _ a b => .seq a b) (fun c _ _ a b => .cond (srcOf sz c) a b) (fun id _ c => .block id c) (fun _ c => .loop c) (fun f ps a b _ _ => .more (.rangeFunc f ps a b)) (fun id => .exit id) (fun c _ => .more (.scope c)) (fun _ => .skip) (fun l => .more (.goto l)) .ret (fun w => .more (.refuse w)) c
def crOf : ResultVar → CR
  | .tmp t => match slotOf sz t with
    | some p => .tmp p
    | none => .bad
  | .cell a t => match slotOf sz a with
    | some p => .cell p t
    | none => .bad
end comp
def cfOf (P : Program) (g : Nat) : CF := match P.funcs[g]? with
  | some fn => match fn.body, Nat.ble fn.ntmps 512 with
    | some c, true => .fn fn.ntmps 9 (ccOf P fn.ntmps c) (fn.results.toList.map (crOf fn.ntmps))
    | _, _ => .bad
  | none => .bad

section run
variable (P : Program) (G : Nat → Option Nat)
abbrev KA := AV → HT → Nat → Bool

def srcK (s : Src) (t : T AV) (K : AV → Bool) : Bool := Src.rec (motive := fun _ => Bool) (fun p => T.getK t p K) (fun v => K v)
  (fun g => Option.rec (motive := fun _ => Bool) false (fun id => K (.ptr id 0)) (G g)) false s
def srcsK (l : List Src) (t : T AV) (K : List AV → Bool) : Bool :=
  List.rec (motive := fun _ => (List AV → Bool) → Bool) (fun K => K []) (fun s _ S K => srcK G s t fun v => S fun l => K (v :: l)) l K
def dsK (d : Ds) (t : T AV) (v : AV) (K : T AV → Bool) : Bool := Ds.rec (motive := fun _ => Bool) (K t) (fun p => T.setK p t v K) false d
/-- Is the operation wanted? -/
def gdK (g : Gd) (t : T AV) (yes no : Bool) : Bool := Gd.rec (motive := fun _ => Bool) yes
  (fun p b => T.getK t p fun v => AV.casesOn (motive_1 := fun _ => Bool) v (fun x => Bool.rec (motive := fun _ => Bool) (Bool.rec (motive := fun _ => Bool) yes no b) (Bool.rec (motive := fun _ => Bool) no yes b) x)
    (fun _ _ => false) (fun _ => false) (fun _ _ => false) false (fun _ _ _ _ => false) (fun _ _ _ _ _ => false) false (fun _ => false) false (fun _ _ _ => false) false (fun _ _ => false) false (fun _ => false) (fun _ => no) (fun _ => false)) false g

/-- By the kind of a value. -/
def onPtr (v : AV) (K : Nat → Nat → Bool) : Bool := AV.casesOn (motive_1 := fun _ => Bool) v (fun _ => false) (fun _ _ => false) (fun _ => false) K false (fun _ _ _ _ => false) (fun _ _ _ _ _ => false) false (fun _ => false) false (fun _ _ _ => false) false (fun _ _ => false) false (fun _ => false) (fun _ => false) (fun _ => false)
def onInt (v : AV) (K : IntKind → Int → Bool) (E : Bool) : Bool := AV.casesOn (motive_1 := fun _ => Bool) v (fun _ => E) K (fun _ => E) (fun _ _ => E) E (fun _ _ _ _ => E) (fun _ _ _ _ _ => E) E (fun _ => E) E (fun _ _ _ => E) E (fun _ _ => E) E (fun _ => E) (fun _ => E) (fun _ => E)
def onNat (n : Int) (K : Nat → Bool) : Bool := Int.rec (motive := fun _ => Bool) K (fun _ => false) n
def onCells (ht : HT) (id : Nat) (K : T AV → Nat → TypeId → Bool) : Bool :=
  T.getN ht id fun b => Option.rec (motive := fun _ => Bool) false (fun k => ABlk.rec (motive := fun _ => Bool) K (fun _ _ => false) (fun _ _ => false) k) b

def hPick (c a b : Src) (t : T AV) (K : AV → Bool) : Bool := srcK G c t fun v => AV.casesOn (motive_1 := fun _ => Bool) v (fun x => Bool.rec (motive := fun _ => Bool) (srcK G b t K) (srcK G a t K) x)
  (fun _ _ => false) (fun _ => false) (fun _ _ => false) false (fun _ _ _ _ => false) (fun _ _ _ _ _ => false) false (fun _ => false) false (fun _ _ _ => false) false (fun _ _ => false) false (fun _ => false) (fun _ => false) (fun _ => false)
def hLoad1 (x : Src) (t : T AV) (ht : HT) (K : AV → Bool) : Bool := srcK G x t fun v => onPtr v fun id off => onCells ht id fun c n _ => fB (Nat.blt off n) (T.getN c off K) false
def hLoadN (n : Nat) (x : Src) (t : T AV) (ht : HT) (K : AV → Bool) : Bool := srcK G x t fun v => onPtr v fun id off => onCells ht id fun c m _ => fB (Nat.ble (Nat.add off n) m) (T.listK c n off fun l => K (.agg l)) false
def hAdd (k : Nat) (x : Src) (t : T AV) (K : AV → Bool) : Bool := srcK G x t fun v => onPtr v fun id off => fN (Nat.add off k) fun off => K (.ptr id off)
def hElemA (n size : Nat) (x i : Src) (t : T AV) (K : AV → Bool) : Bool := srcK G x t fun v => srcK G i t fun w => onPtr v fun id off => onInt w (fun _ j => onNat j fun j => fB (Nat.blt j n) (fN (Nat.add off (Nat.mul j size)) fun off => K (.ptr id off)) false) false
def hElemS (size : Nat) (x i : Src) (t : T AV) (K : AV → Bool) : Bool := srcK G x t fun v => srcK G i t fun w => onInt w (fun _ j => onNat j fun j =>
  AV.casesOn (motive_1 := fun _ => Bool) v (fun _ => false) (fun _ _ => false) (fun _ => false) (fun _ _ => false) false
    (fun id off len _ => fB (Nat.blt j len) (fN (Nat.add off (Nat.mul j size)) fun off => K (.ptr id off)) false)
    (fun id _ off len _ => fB (Nat.blt j len) (fN (Nat.add off (Nat.mul j size)) fun off => K (.ptr id off)) false)
    false (fun _ => false) false (fun _ _ _ => false) false (fun _ _ => false) false (fun _ => false) (fun _ => false) (fun _ => false)) false
def hNilc (x : Src) (t : T AV) (K : AV → Bool) : Bool := srcK G x t fun v =>
  AV.casesOn (motive_1 := fun _ => Bool) v (fun _ => false) (fun _ _ => false) (fun _ => false) (fun id off => K (.ptr id off)) false (fun _ _ _ _ => false) (fun _ _ _ _ _ => false) false (fun _ => false) false
    (fun f a b => match f with
      | .func g => K (.fn (.func g) a b)
      | _ => false) false (fun t v => K (.iface t v)) false (fun _ => false) (fun _ => false) (fun _ => false)
def onO {α : Type} (x : Option α) (K : α → Bool) : Bool := Option.rec (motive := fun _ => Bool) false K x
/-- Two numbers. -/
def binI (op : BinOp) (k : IntKind) (a b : Int) (K : AV → Bool) : Bool := onO (abInt op k a b) fun v => fV0 v K
def hBin (op : BinOp) (ty : TypeId) (lit : Bool) (x y : Src) (t : T AV) (K : AV → Bool) : Bool := srcK G x t fun v => srcK G y t fun w =>
  onInt v (fun k a => onInt w (fun k' b => fB (k == k' || op == .shl || op == .shr) (binI op k a b K) false) (onO (abin P op ty lit v w) fun v => fV v K)) (onO (abin P op ty lit v w) fun v => fV v K)
def hExt (i : Nat) (x : Src) (t : T AV) (K : AV → Bool) : Bool := srcK G x t fun v =>
  AV.casesOn (motive_1 := fun _ => Bool) v (fun _ => false) (fun _ _ => false) (fun _ => false) (fun _ _ => false) false (fun _ _ _ _ => false) (fun _ _ _ _ _ => false) false (fun _ => false) false (fun _ _ _ => false) false (fun _ _ => false) false (fun _ => false) (fun l => onO l[i]? K) (fun _ => false)
def hLenS (x : Src) (t : T AV) (K : AV → Bool) : Bool := srcK G x t fun v =>
  AV.casesOn (motive_1 := fun _ => Bool) v (fun _ => false) (fun _ _ => false) (fun _ => false) (fun _ _ => false) false (fun _ _ len _ => K (.int .i64 (.ofNat len))) (fun _ _ _ len _ => K (.int .i64 (.ofNat len))) (K (.int .i64 (.ofNat 0))) (fun _ => false) false (fun _ _ _ => false) false (fun _ _ => false) false (fun _ => false) (fun _ => false) (fun _ => false)
def hOldV (sz : Nat) (o : Oper) (t : T AV) (ht : HT) (nx : Nat) (K : AV → Bool) (N : ABlk → (Nat → AV) → Bool) : Bool := onO (fop P ⟨t, sz, G⟩ o ⟨ht, nx⟩) fun r =>
  Out.rec (motive := fun _ => Bool) (fun v => fV v K) (fun k _ v => N k v) r

def cvK (sz : Nat) (c : CV) (t : T AV) (ht : HT) (nx : Nat) (K : AV → Bool) (N : ABlk → (Nat → AV) → Bool) : Bool := CV.rec (motive := fun _ => Bool)
  (fun x => srcK G x t K) (fun c a b => hPick G c a b t K) (fun x => hLoad1 G x t ht K) (fun n x => hLoadN G n x t ht K) (fun k x => hAdd G k x t K) (fun n s x i => hElemA G n s x i t K) (fun s x i => hElemS G s x i t K)
  (fun x => hNilc G x t K) (fun op ty lit x y => hBin P G op ty lit x y t K) (fun i x => hExt G i x t K) (fun x => hLenS G x t K) (fun o => hOldV P G sz o t ht nx K N) c

abbrev CallK := Nat → List AV → HT → Nat → KA → Bool
def putBlk (ht : HT) (id : Nat) (k : ABlk) (K : HT → Bool) : Bool := T.setN 16 ht id (some k) K
def storeOne (s : Nat) (c : T AV) (m : Nat) (ty : TypeId) (id off : Nat) (w : AV) (ht : HT) (nx : Nat) (K : KA) : Bool :=
  fB (Nat.beq s 1 && Nat.blt off m) (T.setN (dep m) c off w fun c => putBlk ht id (.cells c m ty) fun ht => K undefA ht nx) false
def hStore (s : Nat) (x y : Src) (t : T AV) (ht : HT) (nx : Nat) (K : KA) : Bool := srcK G x t fun v => srcK G y t fun w => onPtr v fun id off => onCells ht id fun c m ty =>
  AV.casesOn (motive_1 := fun _ => Bool) w (fun b => storeOne s c m ty id off (.bool b) ht nx K) (fun k n => storeOne s c m ty id off (.int k n) ht nx K) (fun l => storeOne s c m ty id off (.str l) ht nx K) (fun a b => storeOne s c m ty id off (.ptr a b) ht nx K)
    (storeOne s c m ty id off .nilp ht nx K) (fun a b d e => storeOne s c m ty id off (.slice a b d e) ht nx K) (fun a b d e f => storeOne s c m ty id off (.osl a b d e f) ht nx K) (storeOne s c m ty id off .nils ht nx K) (fun a => storeOne s c m ty id off (.map a) ht nx K)
    (storeOne s c m ty id off .nilm ht nx K) (fun f a b => storeOne s c m ty id off (.fn f a b) ht nx K) (storeOne s c m ty id off .nilf ht nx K) (fun a b => storeOne s c m ty id off (.iface a b) ht nx K) (storeOne s c m ty id off .nili ht nx K)
    (fun l => fB (Nat.beq l.length s && Nat.ble (Nat.add off s) m && l.all AV.plain) (T.layK (dep m) l c off fun c => putBlk ht id (.cells c m ty) fun ht => K undefA ht nx) false) (fun _ => false) (fun i => storeOne s c m ty id off (.sym i) ht nx K)
def hOldA (sz : Nat) (o : Oper) (t : T AV) (ht : HT) (nx : Nat) (K : KA) : Bool := onO (aop P (fun _ _ _ => none) ⟨t, sz, G⟩ o ⟨ht, nx⟩) fun r =>
  Prod.rec (motive := fun _ => Bool) (fun v H => Heap.rec (motive := fun _ => Bool) (fun ht nx => fV v fun v => fN nx fun nx => K v ht nx) H) r
def hCallV (call : CallK) (x : Src) (args : List Src) (t : T AV) (ht : HT) (nx : Nat) (K : KA) : Bool := srcK G x t fun v => srcsK G args t fun l =>
  AV.casesOn (motive_1 := fun _ => Bool) v (fun _ => false) (fun _ _ => false) (fun _ => false) (fun _ _ => false) false (fun _ _ _ _ => false) (fun _ _ _ _ _ => false) false (fun _ => false) false
    (fun f a b => match f with
      | .func g => call g (a ++ (l ++ b)) ht nx K
      | _ => false) false (fun _ _ => false) false (fun _ => false) (fun _ => false) (fun _ => false)
def hCallI (call : CallK) (r : Src) (name : String) (args : List Src) (t : T AV) (ht : HT) (nx : Nat) (K : KA) : Bool := srcK G r t fun v => srcsK G args t fun l =>
  AV.casesOn (motive_1 := fun _ => Bool) v (fun _ => false) (fun _ _ => false) (fun _ => false) (fun _ _ => false) false (fun _ _ _ _ => false) (fun _ _ _ _ _ => false) false (fun _ => false) false (fun _ _ _ => false) false
    (fun ty w => onO (methodA P ty w name) fun m => Prod.rec (motive := fun _ => Bool) (fun g recv => call g (recv :: l) ht nx K) m) false (fun _ => false) (fun _ => false) (fun _ => false)
def caK (call : CallK) (sz : Nat) (c : CA) (t : T AV) (ht : HT) (nx : Nat) (K : KA) : Bool := CA.rec (motive := fun _ => Bool)
  (fun s x y => hStore G s x y t ht nx K) (fun g args => srcsK G args t fun l => call g l ht nx K) (fun x args => hCallV G call x args t ht nx K) (fun r name args => hCallI P G call r name args t ht nx K) (fun o => hOldA P G sz o t ht nx K) c

/-- Operations one behind the other. -/
def opsK (call : CallK) (sz : Nat) (l : List CI) : T AV → HT → Nat → (T AV → HT → Nat → Bool) → Bool :=
  List.rec (motive := fun _ => T AV → HT → Nat → (T AV → HT → Nat → Bool) → Bool) (fun t ht nx K => K t ht nx)
    (fun ci _ S t ht nx K => CI.rec (motive := fun _ => Bool)
      (fun c d g => gdK g t (cvK P G sz c t ht nx (fun v => dsK d t v fun t => S t ht nx K)
        (fun k v => fB (Nat.blt nx 65536) (putBlk ht nx k fun ht => fV0 (v nx) fun v => dsK d t v fun t => fN (Nat.succ nx) fun nx => S t ht nx K) false)) (dsK d t undefA fun t => S t ht nx K))
      (fun c d g => gdK g t (caK P G call sz c t ht nx fun v ht nx => dsK d t v fun t => S t ht nx K) (dsK d t undefA fun t => S t ht nx K)) (fun _ _ _ => false) (fun _ _ _ => false) ci) l

structure Mk where
  i : Nat
  id : Nat
  k : ABlk
/-- A store that comes last. -/
structure Lt where
  i : Nat
  m : Nat
  id : Nat
  k : ABlk
structure Flt where
  c : CV
  t : T AV
  v : AV
  i : Nat
  m : Nat
structure Stg where
  ht : HT
  nx : Nat
  M : Nat
  A : Nat
def viewK (mask M : Nat) (l : List Mk) : HT → (HT → Bool) → Bool :=
  List.rec (motive := fun _ => HT → (HT → Bool) → Bool) (fun ht K => K ht)
    (fun x _ S ht K => Mk.rec (motive := fun _ => Bool) (fun i id k => fB (Nat.testBit mask i && !Nat.testBit M i) (putBlk ht id k fun ht => S ht K) (S ht K)) x) l
/-- All that was made, but for what the acts had ahead of them. -/
def lastK (M : Nat) (l : List Mk) : HT → (HT → Bool) → Bool :=
  List.rec (motive := fun _ => HT → (HT → Bool) → Bool) (fun ht K => K ht)
    (fun x _ S ht K => Mk.rec (motive := fun _ => Bool) (fun i id k => fB (Nat.testBit M i) (S ht K) (putBlk ht id k fun ht => S ht K)) x) l
def snocK {α : Type} (x : α) (l : List α) (K : List α → Bool) : Bool :=
  List.rec (motive := fun _ => (List α → Bool) → Bool) (fun K => K [x]) (fun y _ S K => S fun l => K (y :: l)) l K
/-- What floats is the same at every stage. -/
def fltK (sz At : Nat) (mks : List Mk) (c : CV) (t : T AV) (v : AV) (i m : Nat) (ss : List Stg) (K : Bool) : Bool :=
  List.rec (motive := fun _ => Bool) K (fun s _ S' => Stg.rec (motive := fun _ => Bool) (fun ht nx M A =>
    fB (Nat.beq (Nat.land (Nat.land m At) A) (Nat.land m At) && !Nat.testBit M i) (viewK m M mks ht fun ht => cvK P G sz c t ht nx (fun w => fB (abeq w v) S' false) (fun _ _ => false)) S') s) ss
def fltsK (sz At : Nat) (mks : List Mk) (ss : List Stg) (l : List Flt) (K : Bool) : Bool :=
  List.rec (motive := fun _ => Bool) K (fun x _ S => Flt.rec (motive := fun _ => Bool) (fun c t v i m => fltK P G sz At mks c t v i m ss S) x) l
def lateChk (A : Nat) (mks : List Mk) (fs : List Flt) (all : List Lt) (ls : List Lt) : Bool :=
  List.rec (motive := fun _ => Bool) true (fun x _ S => Nat.beq (Nat.land x.m A) A && (mks.all fun y => Nat.testBit x.m y.i) && (fs.all fun y => Nat.testBit x.m y.i) && (all.all fun y => Nat.beq y.i x.i || !Nat.beq y.id x.id) && S) ls
def latesK (ls : List Lt) : HT → (HT → Bool) → Bool :=
  List.rec (motive := fun _ => HT → (HT → Bool) → Bool) (fun ht K => K ht) (fun x _ S ht K => Lt.rec (motive := fun _ => Bool) (fun _ _ id k => putBlk ht id k fun ht => S ht K) x) ls
def endK (sz : Nat) (K : T AV → HT → Nat → Bool) (t : T AV) (ht : HT) (nx1 M A : Nat) (mks : List Mk) (ss : List Stg) (fs : List Flt) (ls : List Lt) : Bool :=
  fltsK P G sz A mks (⟨ht, nx1, M, A⟩ :: ss) fs (fB (lateChk A mks fs ls ls) (lastK M mks ht fun ht => latesK ls ht fun ht => K t ht nx1) false)
abbrev KR := T AV → HT → Nat → Nat → Nat → List Mk → List Stg → List Flt → List Lt → Bool
def mkK (nx i : Nat) (k : ABlk) (v : Nat → AV) (d : Ds) (t : T AV) (mks : List Mk) (K : T AV → List Mk → Bool) : Bool :=
  fN (Nat.add nx i) fun id => fV0 (v id) fun v => dsK d t v fun t => snocK ⟨i, id, k⟩ mks fun mks => K t mks
def stepVK (sz nx : Nat) (c : CV) (d : Ds) (g : Gd) (i m : Nat) (h : Bool) (S : KR) : KR := fun t ht nx1 M A mks ss fs ls => gdK g t
  (fB h (viewK m M mks ht fun htv => cvK P G sz c t htv nx1 (fun v => dsK d t v fun t' => S t' ht nx1 M A mks ss (⟨c, t, v, i, m⟩ :: fs) ls) (fun k v => mkK nx i k v d t mks fun t mks => S t ht nx1 M A mks ss fs ls))
    (cvK P G sz c t ht nx1 (fun v => dsK d t v fun t => S t ht nx1 M A mks ss fs ls) (fun k v => mkK nx i k v d t mks fun t mks => S t ht nx1 M A mks ss fs ls)))
  (dsK d t undefA fun t => S t ht nx1 M A mks ss fs ls)
def stepAK (call : CallK) (sz : Nat) (c : CA) (d : Ds) (g : Gd) (i m : Nat) (S : KR) : KR := fun t ht nx1 M A mks ss fs ls => gdK g t
  (fB (Nat.beq (Nat.land m A) A) (viewK m M mks ht fun htv => caK P G call sz c t htv nx1 fun v ht' nx' => dsK d t v fun t => fN (Nat.lor M m) fun M' => fN (Nat.lor A (2 ^ i)) fun A' => S t ht' nx' M' A' mks (⟨ht, nx1, M, A⟩ :: ss) fs ls) false)
  (dsK d t undefA fun t => S t ht nx1 M A mks ss fs ls)
def stepPK (sz nx : Nat) (old : Option (Nat × ABlk)) (o : Oper) (d : Ds) (g : Gd) (i m : Nat) (S : KR) : KR := fun t ht nx1 M A mks ss fs ls => gdK g t
  (fN (Nat.add nx i) fun id => viewK m 0 mks (.leaf none) fun V => onO (fappA P ⟨t, sz, G⟩ o id old ⟨V, id⟩) fun r => Prod.rec (motive := fun _ => Bool) (fun k v => fV0 v fun v => dsK d t v fun t => snocK ⟨i, id, k⟩ mks fun mks => S t ht nx1 M A mks ss fs ls) r)
  (dsK d t undefA fun t => S t ht nx1 M A mks ss fs ls)
def stepLK (sz : Nat) (o : Oper) (d : Ds) (g : Gd) (i m : Nat) (S : KR) : KR := fun t ht nx1 M A mks ss fs ls => gdK g t
  (viewK m M mks ht fun V => onO (lateA P ⟨t, sz, G⟩ o ⟨V, nx1⟩) fun r => Prod.rec (motive := fun _ => Bool) (fun id r => Prod.rec (motive := fun _ => Bool) (fun k v => fN id fun id => fV0 v fun v => dsK d t v fun t => snocK ⟨i, m, id, k⟩ ls fun ls => S t ht nx1 M A mks ss fs ls) r) r)
  (dsK d t undefA fun t => S t ht nx1 M A mks ss fs ls)
def runK (call : CallK) (sz nx : Nat) (old : Option (Nat × ABlk)) (K : T AV → HT → Nat → Bool) (l : List DI) : KR :=
  List.rec (motive := fun _ => KR) (endK P G sz K)
    (fun di _ S => DI.rec (motive := fun _ => KR) (fun c i m h => CI.rec (motive := fun _ => KR) (fun c d g => stepVK P G sz nx c d g i m h S) (fun c d g => stepAK P G call sz c d g i m S) (fun o d g => stepPK P G sz nx old o d g i m S) (fun o d g => stepLK P G sz o d g i m S) c) di) l
def drawK (call : CallK) (sz : Nat) (l : List DI) (n : Nat) (ap : Option Nat) (ops : Array Oper) (t : T AV) (ht : HT) (nx : Nat) (K : T AV → HT → Nat → Bool) : Bool :=
  fB (Nat.ble (Nat.add nx n) 65536) (fN (Nat.add nx n) fun nx1 => Option.rec (motive := fun _ => Bool) (runK P G call sz nx none K l t ht nx1 0 0 [] [] [] [])
    (fun ia => onO (hintA P ops ia ⟨t, sz, G⟩ ⟨ht, nx⟩) fun r => Option.rec (motive := fun _ => Bool) (runK P G call sz nx none K l t ht nx1 0 0 [] [] [] [])
      (fun id => fB (Nat.blt id nx) (T.getN ht id fun b => Option.rec (motive := fun _ => Bool) false (fun k => T.setN 16 ht id none fun ht => runK P G call sz nx (some (id, k)) K l t ht nx1 0 0 [] [] [] []) b) false) r) ap) false

abbrev DL := List Df
abbrev KC := Ex → T AV → HT → Nat → DL → Bool
def loopK (body : T AV → HT → Nat → DL → KC → Bool) (fuel : Nat) : T AV → HT → Nat → DL → KC → Bool := Nat.rec (motive := fun _ => T AV → HT → Nat → DL → KC → Bool) (fun _ _ _ _ _ => false)
  (fun _ S t ht nx ds K => body t ht nx ds fun e t ht nx ds => Ex.rec (motive := fun _ => Bool) (S t ht nx ds K) (fun id => K (.exit id) t ht nx ds) (K .ret t ht nx ds) e) fuel
abbrev XK := Nat → CallK → Code → T AV → HT → Nat → DL → KC → Bool
abbrev Kn := FuncId → List AV → Option (Heap → Option (AV × Heap))
abbrev Dn := FuncId → Option (List AV → Heap → Option Heap)
def codeK (X : XK) (call : CallK) (fuel sz : Nat) (c : CC) : T AV → HT → Nat → DL → KC → Bool := CC.rec (motive := fun _ => T AV → HT → Nat → DL → KC → Bool)
  (fun t ht nx ds K => K .norm t ht nx ds)
  (fun t ht nx ds K => K .ret t ht nx ds)
  (fun id t ht nx ds K => K (.exit id) t ht nx ds)
  (fun _ _ A B t ht nx ds K => A t ht nx ds fun e t ht nx ds => Ex.rec (motive := fun _ => Bool) (B t ht nx ds K) (fun id => K (.exit id) t ht nx ds) (K .ret t ht nx ds) e)
  (fun c _ _ A B t ht nx ds K => srcK G c t fun v => AV.casesOn (motive_1 := fun _ => Bool) v (fun x => Bool.rec (motive := fun _ => Bool) (B t ht nx ds K) (A t ht nx ds K) x)
    (fun _ _ => false) (fun _ => false) (fun _ _ => false) false (fun _ _ _ _ => false) (fun _ _ _ _ _ => false) false (fun _ => false) false (fun _ _ _ => false) false (fun _ _ => false) false (fun _ => false) (fun _ => false) (fun _ => false))
  (fun id _ A t ht nx ds K => A t ht nx ds fun e t ht nx ds => Ex.rec (motive := fun _ => Bool) (K .norm t ht nx ds) (fun id' => fB (Nat.beq id' id) (K .norm t ht nx ds) (K (.exit id') t ht nx ds)) (K .ret t ht nx ds) e)
  (fun _ A t ht nx ds K => loopK A fuel t ht nx ds K)
  (fun l t ht nx ds K => opsK P G call sz l t ht nx fun t ht nx => K .norm t ht nx ds)
  (fun l x args d g t ht nx ds K => opsK P G call sz l t ht nx fun t ht nx => gdK g t (srcK G x t fun v => srcsK G args t fun l =>
    AV.casesOn (motive_1 := fun _ => Bool) v (fun _ => false) (fun _ _ => false) (fun _ => false) (fun _ _ => false) false (fun _ _ _ _ => false) (fun _ _ _ _ _ => false) false (fun _ => false) false
    (fun f a b => match f with
      | .func g => fB (entersA P g) (dsK d t undefA fun t => K .norm t ht nx (Df.call g (a ++ (l ++ b)) :: ds)) false
      | _ => false) false (fun _ _ => false) false (fun _ => false) (fun _ => false) (fun _ => false)) false)
  (fun l n ap ops t ht nx ds K => drawK P G call sz l n ap ops t ht nx fun t ht nx => K .norm t ht nx ds)
  (fun c t ht nx ds K => X sz call c t ht nx ds K)
  (fun _ _ _ _ _ => false) c
def resK (l : List CR) (t : T AV) (ht : HT) (nx : Nat) (K : List AV → Bool) : Bool :=
  List.rec (motive := fun _ => (List AV → Bool) → Bool) (fun K => K []) (fun r _ S K => CR.rec (motive := fun _ => Bool) (fun p => T.getK t p fun v => S fun l => K (v :: l))
    (fun p ty => T.getK t p fun v => onPtr v fun id off => onO (loadA P ty ⟨ht, nx⟩ id off) fun v => fV v fun v => S fun l => K (v :: l)) false r) l K
def leaveK (D : Dn) (l : DL) : HT → Nat → (HT → Nat → Bool) → Bool :=
  List.rec (motive := fun _ => HT → Nat → (HT → Nat → Bool) → Bool) (fun ht nx K => K ht nx)
    (fun x _ S ht nx K => Df.rec (motive := fun _ => Bool) (fun g args => onO (D g) fun d => onO (d args ⟨ht, nx⟩) fun H => Heap.rec (motive := fun _ => Bool) (fun ht nx => fN nx fun nx => S ht nx K) H) (S ht nx K) x) l
def oneOr (l : List AV) : AV := match l with
  | [v] => v
  | l => .tup l
def bodyK (X : XK) (D : Dn) (call : CallK) (fuel : Nat) (f : CF) (args : List AV) (ht : HT) (nx : Nat) (K : KA) : Bool := CF.rec (motive := fun _ => Bool)
  (fun sz d c r => fB (Nat.ble args.length sz) (T.layK d args (.leaf undefA) 0 fun t => codeK P G X call fuel sz c t ht nx [] fun e t ht nx ds => Ex.rec (motive := fun _ => Bool)
    (leaveK D ds ht nx fun ht nx => resK P r t ht nx fun l => K (oneOr l) ht nx) (fun _ => false) (leaveK D ds ht nx fun ht nx => resK P r t ht nx fun l => K (oneOr l) ht nx) e) false) false f
def knownK (s : Heap → Option (AV × Heap)) (ht : HT) (nx : Nat) (K : KA) : Bool := onO (s ⟨ht, nx⟩) fun r =>
  Prod.rec (motive := fun _ => Bool) (fun v H => Heap.rec (motive := fun _ => Bool) (fun ht nx => fV v fun v => fN nx fun nx => K v ht nx) H) r
def callK (X : XK) (D : Dn) (Kw : Kn) (fuel n : Nat) : CallK := Nat.rec (motive := fun _ => CallK) (fun _ _ _ _ _ => false)
  (fun _ S g args ht nx K => Option.rec (motive := fun _ => Bool) (bodyK P G X D S fuel (cfOf P g) args ht nx K) (fun s => knownK s ht nx K) (Kw g args)) n
end run
end
end Ev
end Go.Proofs.YtpppaheennkkpaaGreatDoor

/- The compiled run: its small parts. -/
namespace Go.Proofs.YtpppaheennkkpaaGreatDoor
namespace Ev

theorem fN_eq {β : Type} (m : Nat) (K : Nat → β) : fN m K = K m := rfl
theorem fBool_eq {β : Type} (b : Bool) (K : Bool → β) : fBool b K = K b := by cases b <;> rfl
theorem fI_eq {β : Type} (n : Int) (K : Int → β) : fI n K = K n := by cases n <;> rfl
theorem fB_eq {β : Type} (b : Bool) (x y : β) : fB b x y = if b then x else y := by cases b <;> rfl
theorem fB_ok {b x : Bool} (h : fB b x false = true) : b = true ∧ x = true := by
  cases b
  · cases (show false = true from h)
  · exact ⟨rfl, h⟩

namespace T
variable {α β : Type}
theorem getK_eq (K : α → β) : ∀ (t : T α) (d i : Nat), i < 2 ^ d → t.getK (pathOf d i) K = K (t.get i)
  | .leaf v, d, i, _ => rfl
  | .node l r, 0, i, h => by
    have : i = 0 := by simpa using h
    subst this
    show l.getK .e K = _
    rw [get_node]
    exact getK_eq K l 0 0 (by simp)
  | .node l r, d + 1, i, h => by
    have hp : 2 ^ (d + 1) = 2 * 2 ^ d := by rw [Nat.pow_succ, Nat.mul_comm]
    have h2 : i / 2 < 2 ^ d := by omega
    rw [get_node, pathOf]
    split
    · rename_i h0
      rw [if_pos h0]
      exact getK_eq K l d (i / 2) h2
    · rename_i h0
      rw [if_neg (fun e => h0 e)]
      exact getK_eq K r d (i / 2) h2
theorem setK_eq (v : α) : ∀ (d : Nat) (t : T α) (i : Nat) (K : T α → β), setK (pathOf d i) t v K = K (T.set d t i v)
  | 0, t, i, K => rfl
  | d + 1, t, i, K => by
    rw [pathOf]
    cases t with
    | leaf x =>
      rw [set_leaf]
      split
      · rename_i h0
        rw [if_pos h0]
        exact setK_eq v d (.leaf x) (i / 2) (fun l => K (.node l (.leaf x)))
      · rename_i h0
        rw [if_neg (fun e => h0 e)]
        exact setK_eq v d (.leaf x) (i / 2) (fun r => K (.node (.leaf x) r))
    | node l r =>
      rw [set_node]
      split
      · rename_i h0
        rw [if_pos h0]
        exact setK_eq v d l (i / 2) (fun l => K (.node l r))
      · rename_i h0
        rw [if_neg (fun e => h0 e)]
        exact setK_eq v d r (i / 2) (fun r => K (.node l r))
theorem getN_eq (K : α → β) : ∀ (t : T α) (i : Nat), t.getN i K = K (t.get i)
  | .leaf v, i => rfl
  | .node l r, i => by
    have e : (T.node l r).getN i K = Nat.rec (motive := fun _ => β) (l.getN (Nat.div i 2) K) (fun _ _ => r.getN (Nat.div i 2) K) (Nat.mod i 2) := rfl
    rw [e, pick2, get_node]
    split
    · exact getN_eq K l (i / 2)
    · exact getN_eq K r (i / 2)
theorem setN_eq (v : α) : ∀ (d : Nat) (t : T α) (i : Nat) (K : T α → β), setN d t i v K = K (T.set d t i v)
  | 0, t, i, K => rfl
  | d + 1, t, i, K => by
    have e : setN (d + 1) t i v K = Nat.rec (motive := fun _ => β)
      (T.rec (motive := fun _ => β) (fun x => setN d (.leaf x) (Nat.div i 2) v fun l => K (.node l (.leaf x))) (fun l r _ _ => setN d l (Nat.div i 2) v fun l' => K (.node l' r)) t)
      (fun _ _ => T.rec (motive := fun _ => β) (fun x => setN d (.leaf x) (Nat.div i 2) v fun r => K (.node (.leaf x) r)) (fun l r _ _ => setN d r (Nat.div i 2) v fun r' => K (.node l r')) t) (Nat.mod i 2) := rfl
    rw [e, pick2]
    cases t with
    | leaf x =>
      rw [set_leaf]
      split
      · exact setN_eq v d (.leaf x) (i / 2) (fun l => K (.node l (.leaf x)))
      · exact setN_eq v d (.leaf x) (i / 2) (fun r => K (.node (.leaf x) r))
    | node l r =>
      rw [set_node]
      split
      · exact setN_eq v d l (i / 2) (fun l => K (.node l r))
      · exact setN_eq v d r (i / 2) (fun r => K (.node l r))
theorem listK_eq (t : T α) : ∀ (n i : Nat) (K : List α → β), listK t n i K = K (t.list i n)
  | 0, i, K => rfl
  | n + 1, i, K => by
    have e : listK t (n + 1) i K = getN t i (fun v => listK t n (i + 1) fun l => K (v :: l)) := rfl
    rw [e, getN_eq, listK_eq t n]
    rfl
theorem layK_eq (d : Nat) : ∀ (l : List α) (t : T α) (i : Nat) (K : T α → β), layK d l t i K = K (T.lay d t i l)
  | [], t, i, K => rfl
  | v :: l, t, i, K => by
    have e : layK d (v :: l) t i K = setN d t i v (fun t => layK d l t (i + 1) K) := rfl
    rw [e, setN_eq, layK_eq d l]
    rfl
end T

theorem fS_eq {β : Type} : ∀ (l : List UInt8) (K : List UInt8 → β), fS l K = K l
  | [], K => rfl
  | v :: l, K => by
    have e : fS (v :: l) K = fS l (fun l => K (v :: l)) := rfl
    rw [e, fS_eq l]
theorem fL_eq {β : Type} {el : AV → (AV → β) → β} (he : ∀ v K, el v K = K v) : ∀ (l : List AV) (K : List AV → β), fL l el K = K l
  | [], K => rfl
  | v :: l, K => by
    have e : fL (v :: l) el K = el v (fun v => fL l el fun l => K (v :: l)) := rfl
    rw [e, he, fL_eq he l]
theorem fV0_eq {β : Type} (v : AV) (K : AV → β) : fV0 v K = K v := by
  cases v with
  | bool b => exact fBool_eq b (fun b => K (.bool b))
  | int k n => exact fI_eq n (fun n => K (.int k n))
  | str l => exact fS_eq l (fun l => K (.str l))
  | _ => rfl
theorem fV_eq {β : Type} (v : AV) (K : AV → β) : fV v K = K v := by
  cases v with
  | bool b => exact fBool_eq b (fun b => K (.bool b))
  | int k n => exact fI_eq n (fun n => K (.int k n))
  | str l => exact fS_eq l (fun l => K (.str l))
  | fn f a b =>
    show fL a fV0 (fun a => fL b fV0 fun b => K (.fn f a b)) = _
    rw [fL_eq fV0_eq, fL_eq fV0_eq]
  | iface t v =>
    show fV0 v (fun v => K (.iface t v)) = _
    rw [fV0_eq]
  | agg l =>
    show fL l fV0 (fun l => K (.agg l)) = _
    rw [fL_eq fV0_eq]
  | tup l =>
    show fL l fV0 (fun l => K (.tup l)) = _
    rw [fL_eq fV0_eq]
  | _ => rfl

section
variable {P : Program} {G : Nat → Option Nat} {sz : Nat} {t : T AV}

theorem slotOf_some {i : Nat} {p : Path} (h : slotOf sz i = some p) : i < sz ∧ p = pathOf 9 i ∧ Nat.blt i sz = true := by
  unfold slotOf at h
  split at h
  · rename_i hb
    cases h
    exact ⟨bl hb, rfl, hb⟩
  · cases h
theorem onPtr_ok {v : AV} {K : Nat → Nat → Bool} (h : onPtr v K = true) : ∃ id off, v = .ptr id off ∧ K id off = true := by
  cases v <;> first | exact ⟨_, _, rfl, h⟩ | exact nomatch (show false = true from h)
theorem onNat_ok {n : Int} {K : Nat → Bool} (h : onNat n K = true) : ∃ m, n = .ofNat m ∧ K m = true := by
  cases n <;> first | exact ⟨_, rfl, h⟩ | exact nomatch (show false = true from h)
theorem onInt_ok {v : AV} {K : IntKind → Int → Bool} {E : Bool} (h : onInt v K E = true) : (∃ k n, v = .int k n ∧ K k n = true) ∨ E = true := by
  cases v <;> first | exact .inl ⟨_, _, rfl, h⟩ | exact .inr h
theorem onO_ok {α : Type} {x : Option α} {K : α → Bool} (h : onO x K = true) : ∃ v, x = some v ∧ K v = true := by
  cases x with
  | none => exact nomatch (show false = true from h)
  | some v => exact ⟨v, rfl, h⟩
theorem onCells_ok {ht : HT} {id nx : Nat} {K : T AV → Nat → TypeId → Bool} (h : onCells ht id K = true) : ∃ c n ty, (⟨ht, nx⟩ : Heap).get id = some (.cells c n ty) ∧ K c n ty = true := by
  unfold onCells at h
  rw [T.getN_eq] at h
  show ∃ c n ty, ht.get id = _ ∧ _
  revert h
  cases ht.get id with
  | none => intro h; exact nomatch (show false = true from h)
  | some k =>
    cases k with
    | cells c n ty => intro h; exact ⟨c, n, ty, rfl, h⟩
    | map es ck => intro h; exact nomatch (show false = true from h)
    | iter s i => intro h; exact nomatch (show false = true from h)

theorem srcK_ok (hs : sz ≤ 512) {x : Operand} {K : AV → Bool} (h : srcK G (srcOf sz x) t K = true) : ∃ v, ev ⟨t, sz, G⟩ x = some v ∧ K v = true := by
  unfold srcOf at h
  split at h
  · rename_i i
    split at h
    · rename_i p hp
      obtain ⟨h1, rfl, hb⟩ := slotOf_some hp
      have h : T.getK t (pathOf 9 i) K = true := h
      rw [T.getK_eq K t 9 i (by omega)] at h
      exact ⟨t.get i, by simp only [ev, Fr.get, hb], h⟩
    · exact nomatch (show false = true from h)
  · rename_i v
    split at h
    · rename_i a ha
      exact ⟨a, ha, h⟩
    · exact nomatch (show false = true from h)
  · rename_i g
    have h : Option.rec (motive := fun _ => Bool) false (fun id => K (.ptr id 0)) (G g) = true := h
    cases hg : G g with
    | none => rw [hg] at h; exact nomatch (show false = true from h)
    | some id => rw [hg] at h; exact ⟨.ptr id 0, by simp [ev, hg], h⟩
  · exact ⟨_, rfl, h⟩
theorem srcsK_ok (hs : sz ≤ 512) : ∀ {l : List Operand} {K : List AV → Bool}, srcsK G (l.map (srcOf sz)) t K = true → ∃ vs, evs ⟨t, sz, G⟩ l = some vs ∧ K vs = true
  | [], K, h => ⟨[], rfl, h⟩
  | x :: l, K, h => by
    have h : srcK G (srcOf sz x) t (fun v => srcsK G (l.map (srcOf sz)) t fun l => K (v :: l)) = true := h
    obtain ⟨v, h1, h2⟩ := srcK_ok hs h
    obtain ⟨vs, h3, h4⟩ := srcsK_ok hs h2
    exact ⟨v :: vs, by simp [evs, h1, h3], h4⟩
theorem dsK_ok {dst : Option Nat} {v : AV} {K : T AV → Bool} (h : dsK (dsOf sz dst) t v K = true) : ∃ t', (⟨t, sz, G⟩ : Fr).put dst v = some ⟨t', sz, G⟩ ∧ K t' = true := by
  unfold dsOf at h
  split at h
  · exact ⟨t, rfl, h⟩
  · rename_i d
    split at h
    · rename_i p hp
      obtain ⟨h1, rfl, hb⟩ := slotOf_some hp
      have h : T.setK (pathOf 9 d) t v K = true := h
      rw [T.setK_eq] at h
      exact ⟨_, by simp only [Fr.put, hb], h⟩
    · exact nomatch (show false = true from h)
theorem gdK_ok (hs : sz ≤ 512) {ops : Array Oper} {o : Oper} {yes no : Bool} (h : gdK (gdOf sz ops o) t yes no = true) : (wantA ⟨t, sz, G⟩ ops o = some true ∧ yes = true) ∨ (wantA ⟨t, sz, G⟩ ops o = some false ∧ no = true) := by
  unfold gdOf at h
  unfold wantA
  split at h
  · rename_i hg
    rw [hg]
    exact .inl ⟨rfl, h⟩
  · rename_i j want hg
    rw [hg]
    simp only
    split at h
    · rename_i g hj
      rw [hj]
      simp only
      split at h
      · rename_i d hd
        rw [hd]
        simp only
        split at h
        · rename_i p hp
          obtain ⟨h1, rfl, hb⟩ := slotOf_some hp
          have hget : (⟨t, sz, G⟩ : Fr).get d = some (t.get d) := by simp only [Fr.get, hb]
          rw [hget]
          unfold gdK at h
          simp only at h
          rw [T.getK_eq _ t 9 d (by omega)] at h
          revert h
          cases t.get d with
          | bool x =>
            intro h
            cases x <;> cases want <;> first | exact .inl ⟨rfl, h⟩ | exact .inr ⟨rfl, h⟩
          | tup l => intro h; exact .inr ⟨rfl, h⟩
          | _ => intro h; exact nomatch (show false = true from h)
        · exact nomatch (show false = true from h)
      · exact nomatch (show false = true from h)
    · exact nomatch (show false = true from h)
end
end Ev
end Go.Proofs.YtpppaheennkkpaaGreatDoor
