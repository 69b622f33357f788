/- The run goes on: a statement whose order Go leaves open, bodies, loops, calls. -/
import Derived.Test.YtikmamcbngbipaaGreatDoorEC
namespace Go.Proofs.YtikmamcbngbipaaGreatDoor
namespace Ev
noncomputable section

mutual
def abeq : AV → AV → Bool
  | .bool a, .bool b => a == b
  | .int k a, .int l b => k == l && ieq a b
  | .str a, .str b => beqs a b
  | .ptr i o, .ptr j p => Nat.beq i j && Nat.beq o p
  | .nilp, .nilp => true
  | .slice a b c d, .slice a' b' c' d' => Nat.beq a a' && Nat.beq b b' && Nat.beq c c' && Nat.beq d d'
  | .osl a b c d e, .osl a' b' c' d' e' => Nat.beq a a' && Nat.beq b b' && Nat.beq c c' && Nat.beq d d' && Nat.beq e e'
  | .nils, .nils => true
  | .map a, .map b => Nat.beq a b
  | .nilm, .nilm => true
  | .fn (.func f) a b, .fn (.func g) c d => Nat.beq f g && abeqs a c && abeqs b d
  | .nilf, .nilf => true
  | .iface t v, .iface u w => Nat.beq t u && abeq v w
  | .nili, .nili => true
  | .agg a, .agg b => abeqs a b
  | .tup a, .tup b => abeqs a b
  | .sym i, .sym j => Nat.beq i j
  | _, _ => false
def abeqs : List AV → List AV → Bool
  | [], [] => true
  | a :: l, b :: m => abeq a b && abeqs l m
  | _, _ => false
end

/-- What must stand ahead of an operation, as bits. -/
def maskOf (bm : T Nat) (o : Oper) : Nat := o.after.toList.foldl (fun s e => match Region.binds .any e with
  | true => Nat.lor (Nat.lor s (2 ^ e.on)) (bm.get e.on)
  | false => s) 0
def masks : List Oper → Nat → T Nat → T Nat
  | [], _, bm => bm
  | o :: l, i, bm => masks l (i + 1) (T.set 9 bm i (maskOf bm o))
def maskTree (ops : Array Oper) : T Nat := masks ops.toList 0 (.leaf 0)

/-- Of two operations one stands ahead of the other, or neither names what the other makes. -/
def orderlyAt (ops : Array Oper) (mask : Nat) (o : Oper) : List Oper → Nat → Bool
  | [], _ => true
  | x :: l, j => (Nat.testBit mask j || x.apart ops o) && orderlyAt ops mask o l (j + 1)
def orderlyFrom (ops : Array Oper) (bm : T Nat) : List Oper → Nat → List Oper → Bool
  | [], _, _ => true
  | o :: l, i, seen => Nat.blt (bm.get i) (2 ^ i) && orderlyAt ops (bm.get i) o seen 0 && orderlyFrom ops bm l (i + 1) (seen ++ [o])
def orderly (ops : Array Oper) : Bool := orderlyFrom ops (maskTree ops) ops.toList 0 [] && Nat.ble ops.size 256

inductive Kd where
  | skip
  | flt
  | mk (id : Nat) (k : ABlk)
  | act
/-- What became of an operation: its value, its kind, the frame and the memory ahead of it, what the acts so far had ahead of them, which acts there were. -/
structure Rec where
  v : AV
  kd : Kd
  f : Fr
  C : Heap
  M : Nat
  A : Nat

/-- The blocks that were made and are ahead of an operation, but of no act so far. -/
def view (mask M : Nat) (C : Heap) : List Rec → Nat → Heap
  | [], _ => C
  | r :: l, i => match r.kd with
    | .mk id k => match Nat.testBit mask i && !Nat.testBit M i with
      | true => view mask M (C.put id k) l (i + 1)
      | false => view mask M C l (i + 1)
    | _ => view mask M C l (i + 1)

def runD (P : Program) (call : FuncId → List AV → Heap → Option (AV × Heap)) (ops : Array Oper) (bm : T Nat) (n0 : Nat) :
    List Oper → Nat → Fr → Heap → Nat → Nat → List Rec → Option (List Rec × Fr × Heap × Nat × Nat)
  | [], _, f, C, M, A, rs => some (rs, f, C, M, A)
  | o :: l, i, f, C, M, A, rs => match wantA f ops o with
    | some true => match isAct o.op with
      | false => match fop P f o (view (bm.get i) M C rs 0) with
        | some (.val v) => force v fun v => match f.put o.dst v with
          | some f' => runD P call ops bm n0 l (i + 1) f' C M A (rs ++ [⟨v, .flt, f, C, M, A⟩])
          | none => none
        | some (.new k _ v) => match f.put o.dst (v (n0 + i)) with
          | some f' => runD P call ops bm n0 l (i + 1) f' C M A (rs ++ [⟨v (n0 + i), .mk (n0 + i) k, f, C, M, A⟩])
          | none => none
        | none => none
      | true => match Nat.beq (Nat.land (bm.get i) A) A with
        | true => match aop P call f o (view (bm.get i) M C rs 0) with
          | some (v, C') => force v fun v => match f.put o.dst v with
            | some f' => runD P call ops bm n0 l (i + 1) f' C' (Nat.lor M (bm.get i)) (Nat.lor A (2 ^ i)) (rs ++ [⟨v, .act, f, C, M, A⟩])
            | none => none
          | none => none
        | false => none
    | some false => match f.put o.dst undefA with
      | some f' => runD P call ops bm n0 l (i + 1) f' C M A (rs ++ [⟨undefA, .skip, f, C, M, A⟩])
      | none => none
    | none => none

/-- A state between acts: memory, what the acts had ahead of them, which acts. -/
structure Stage where
  C : Heap
  M : Nat
  A : Nat
def stages : List Rec → List Stage
  | [] => []
  | r :: l => match r.kd with
    | .act => ⟨r.C, r.M, r.A⟩ :: stages l
    | _ => stages l

def fltAt (P : Program) (o : Oper) (r : Rec) (i mask At : Nat) (rs : List Rec) : List Stage → Bool
  | [] => true
  | s :: l => match Nat.beq (Nat.land (Nat.land mask At) s.A) (Nat.land mask At) && !Nat.testBit s.M i with
    | true => match fop P r.f o (view mask s.M s.C rs 0) with
      | some (.val v) => abeq v r.v && fltAt P o r i mask At rs l
      | _ => false
    | false => fltAt P o r i mask At rs l
def fltAll (P : Program) (bm : T Nat) (At : Nat) (rs : List Rec) (ss : List Stage) : List Oper → List Rec → Nat → Bool
  | o :: ol, r :: rl, i => (match r.kd with
      | .flt => match hdep o.op with
        | true => fltAt P o r i (bm.get i) At rs ss
        | false => true
      | _ => true) && fltAll P bm At rs ss ol rl (i + 1)
  | [], [], _ => true
  | _, _, _ => false

/-- All that was made and that no act had ahead of it. -/
def lastView (M : Nat) (C : Heap) : List Rec → Nat → Heap
  | [], _ => C
  | r :: l, i => match r.kd with
    | .mk id k => match Nat.testBit M i with
      | true => lastView M C l (i + 1)
      | false => lastView M (C.put id k) l (i + 1)
    | _ => lastView M C l (i + 1)

def drawA (P : Program) (call : FuncId → List AV → Heap → Option (AV × Heap)) (ops : Array Oper) (f : Fr) (H : Heap) : Option (Fr × Heap) :=
  match orderly ops, Nat.ble (H.next + ops.size) 65536 with
  | true, true => match runD P call ops (maskTree ops) H.next ops.toList 0 f ⟨H.t, H.next + ops.size⟩ 0 0 [] with
    | some (rs, f', C, M, A) => match fltAll P (maskTree ops) A rs (stages rs ++ [⟨C, M, A⟩]) ops.toList rs 0 with
      | true => some (f', lastView M C rs 0)
      | false => none
    | none => none
  | _, _ => none

inductive Ex where
  | norm
  | exit (id : Nat)
  | ret

/-- What a frame has put off: a call; the mark of a range over a function. -/
inductive Df where
  | call (g : FuncId) (args : List AV)
  | coll
structure St where
  f : Fr
  H : Heap
  ds : List Df

def loopA : Nat → (St → Option (Ex × St)) → St → Option (Ex × St)
  | 0, _, _ => none
  | n + 1, g, s => match g s with
    | some (.norm, s') => loopA n g s'
    | r => r

/-- A deferral at the end of a row of operations. -/
def deferOf : List Oper → Option (List Oper × Oper × Operand × List Operand)
  | [] => none
  | o :: l => match l with
    | [] => match o.op with
      | .defer { callee := .value x, args, argTypes := _ } => some ([], o, x, args.toList)
      | _ => none
    | _ :: _ => match deferOf l with
      | some (p, r) => some (o :: p, r)
      | none => none
def entersA (P : Program) (g : FuncId) : Bool := match P.funcs[g]? with
  | some fn => !fn.body.isNone
  | none => false

abbrev CallF := FuncId → List AV → Heap → Option (AV × Heap)
/-- What is known beforehand: functions; statements of other kinds; deferred functions. -/
structure Lore where
  K : FuncId → List AV → Option (Heap → Option (AV × Heap))
  X : CallF → Code → St → Option (Ex × St)
  D : FuncId → Option (List AV → Heap → Option Heap)

def codeA (P : Program) (L : Lore) (call : CallF) (fuel : Nat) : Code → St → Option (Ex × St)
  | .skip, s => some (.norm, s)
  | .label _, s => some (.norm, s)
  | .ret, s => some (.ret, s)
  | .exit id, s => some (.exit id, s)
  | .seq a b, s => match codeA P L call fuel a s with
    | some (.norm, s') => codeA P L call fuel b s'
    | r => r
  | .cond c a b, s => match ev s.f c with
    | some (.bool true) => codeA P L call fuel a s
    | some (.bool false) => codeA P L call fuel b s
    | _ => none
  | .block id c, s => match codeA P L call fuel c s with
    | some (.exit id', s') => match Nat.beq id' id with
      | true => some (.norm, s')
      | false => some (.exit id', s')
    | r => r
  | .loop c, s => loopA fuel (codeA P L call fuel c) s
  | .region _ ops draw, s => match draw with
    | false => match deferOf ops.toList with
      | none => match seqA P call ops ops.toList s.f s.H with
        | some (f, H) => some (.norm, ⟨f, H, s.ds⟩)
        | none => none
      | some (pre, o, x, args) => match seqA P call ops pre s.f s.H with
        | some (f, H) => match wantA f ops o, ev f x, evs f args, f.put o.dst undefA with
          | some true, some (.fn (.func g) first captured), some l, some f' => match entersA P g with
            | true => some (.norm, ⟨f', H, Df.call g (first ++ (l ++ captured)) :: s.ds⟩)
            | false => none
          | _, _, _, _ => none
        | none => none
    | true => match drawA P call ops s.f s.H with
      | some (f, H) => some (.norm, ⟨f, H, s.ds⟩)
      | none => none
  | c, s => L.X call c s

def resA (P : Program) (f : Fr) (H : Heap) : List ResultVar → Option (List AV)
  | [] => some []
  | .tmp t :: l => match f.get t, resA P f H l with
    | some v, some vs => some (v :: vs)
    | _, _ => none
  | .cell a t :: l => match f.get a with
    | some (.ptr id off) => match loadA P t H id off, resA P f H l with
      | some v, some vs => some (v :: vs)
      | _, _ => none
    | _ => none

def leaveA (L : Lore) : List Df → Heap → Option Heap
  | [], H => some H
  | .call g args :: l, H => match L.D g with
    | some d => match d args H with
      | some H' => leaveA L l H'
      | none => none
    | none => none
  | .coll :: l, H => leaveA L l H

def bodyA (P : Program) (G : Nat → Option Nat) (L : Lore) (call : CallF) (fuel : Nat) (fn : Func) (args : List AV) (H : Heap) : Option (AV × Heap) :=
  match fn.body, Nat.ble args.length fn.ntmps && Nat.ble fn.ntmps 512 with
  | some c, true => match codeA P L call fuel c ⟨⟨T.lay 9 (.leaf undefA) 0 args, fn.ntmps, G⟩, H, []⟩ with
    | some (.exit _, _) => none
    | some (_, s) => match leaveA L s.ds s.H with
      | some H' => match resA P s.f H' fn.results.toList with
        | some [v] => some (v, H')
        | some l => some (.tup l, H')
        | none => none
      | none => none
    | none => none
  | _, _ => none

def callA (P : Program) (G : Nat → Option Nat) (L : Lore) (fuel : Nat) : Nat → CallF
  | 0, _, _, _ => none
  | n + 1, g, args, H => match L.K g args with
    | some s => s H
    | none => match P.funcs[g]? with
      | some fn => bodyA P G L (callA P G L fuel n) fuel fn args H
      | none => none
end
end Ev
end Go.Proofs.YtikmamcbngbipaaGreatDoor
