/-
  An evaluator of the model's code over a memory of its own: definitions. Blocks have numbers of their own; what Go leaves open (capacities, orders) it does not decide: where an answer would hang on it, it answers none.
-/
import GoSem.Dispatch
namespace Ev
open Go
noncomputable section

inductive Tr (α : Type) where
  | nil
  | node (l : Tr α) (v : Option α) (r : Tr α)

def Tr.getS {α : Type} (l r : Nat → Option α) (n : Nat) : Option α :=
  Nat.casesOn (motive := fun _ => Option α) (Nat.mod n 2) (l (Nat.div n 2)) (fun _ => r (Nat.div n 2))

def Tr.getV {α : Type} (v : Option α) (l r : Nat → Option α) (n : Nat) : Option α :=
  Nat.casesOn (motive := fun _ => Option α) n v (fun n => Tr.getS l r n)

def Tr.get {α : Type} (t : Tr α) : Nat → Option α :=
  Tr.rec (motive := fun _ => Nat → Option α) (fun _ => none) (fun _ v _ il ir n => Tr.getV v il ir n) t

def Tr.putS {α : Type} (ih : Tr α → Nat → Tr α) (l : Tr α) (v : Option α) (r : Tr α) (n : Nat) : Tr α :=
  Nat.casesOn (motive := fun _ => Tr α) (Nat.mod n 2) (.node (ih l (Nat.div n 2)) v r) (fun _ => .node l v (ih r (Nat.div n 2)))

def Tr.putV {α : Type} (x : Option α) (ih : Tr α → Nat → Tr α) (l : Tr α) (v : Option α) (r : Tr α) (n : Nat) : Tr α :=
  Nat.casesOn (motive := fun _ => Tr α) n (.node l x r) (fun n => Tr.putS ih l v r n)

def Tr.setF {α : Type} (x : Option α) (f : Nat) : Tr α → Nat → Tr α :=
  Nat.rec (motive := fun _ => Tr α → Nat → Tr α) (fun t _ => t)
    (fun _ ih t n => Tr.casesOn (motive := fun _ => Tr α) t (Tr.putV x ih .nil none .nil n) (fun l v r => Tr.putV x ih l v r n)) f

def Tr.put {α : Type} (t : Tr α) (n : Nat) (x : Option α) : Tr α := Tr.setF x (n + 1) t n

inductive AV where
  | bool (b : Bool)
  | int (k : IntKind) (n : Int)
  | str (l : List Nat)
  | nilptr
  | ptr (id off : Nat)
  | nilslice
  | slice (id off len cap : Nat)
  | oslice (id off len es : Nat)
  | nilmap
  | map (id : Nat)
  | nilfunc
  | func (f : Nat) (first captured : List AV)
  | yieldf (l : Nat)
  | nilif
  | iface (t : Nat) (v : AV)
  | agg (l : List AV)
  | tup (l : List AV)

def AV.undef : AV := .tup []

def AV.scalar (x : AV) : Bool :=
  AV.casesOn (motive_1 := fun _ => Bool) x (fun _ => true) (fun _ _ => true) (fun _ => true) true (fun _ _ => true) true (fun _ _ _ _ => true) (fun _ _ _ _ => true) true (fun _ => true) true (fun _ _ _ => true) (fun _ => true) true (fun _ _ => true) (fun _ => false) (fun _ => false)

def AV.cells : AV → List AV
  | .agg l => l
  | v => [v]

/-! extractors: each a single case with closed arms, so that the kernel copies nothing -/
def AV.asBool (x : AV) : Option Bool :=
  AV.casesOn (motive_1 := fun _ => Option Bool) x (fun b => some b) (fun _ _ => none) (fun _ => none) none (fun _ _ => none) none (fun _ _ _ _ => none) (fun _ _ _ _ => none) none (fun _ => none) none (fun _ _ _ => none) (fun _ => none) none (fun _ _ => none) (fun _ => none) (fun _ => none)
def AV.asInt (x : AV) : Option (IntKind × Int) :=
  AV.casesOn (motive_1 := fun _ => Option (IntKind × Int)) x (fun _ => none) (fun k n => some (k, n)) (fun _ => none) none (fun _ _ => none) none (fun _ _ _ _ => none) (fun _ _ _ _ => none) none (fun _ => none) none (fun _ _ _ => none) (fun _ => none) none (fun _ _ => none) (fun _ => none) (fun _ => none)
def natOfI (n : Int) : Option Nat := Int.casesOn (motive := fun _ => Option Nat) n (fun n => some n) (fun _ => none)
def AV.asNat (x : AV) : Option Nat :=
  AV.casesOn (motive_1 := fun _ => Option Nat) x (fun _ => none) (fun _ n => natOfI n) (fun _ => none) none (fun _ _ => none) none (fun _ _ _ _ => none) (fun _ _ _ _ => none) none (fun _ => none) none (fun _ _ _ => none) (fun _ => none) none (fun _ _ => none) (fun _ => none) (fun _ => none)
def AV.asStr (x : AV) : Option (List Nat) :=
  AV.casesOn (motive_1 := fun _ => Option (List Nat)) x (fun _ => none) (fun _ _ => none) (fun l => some l) none (fun _ _ => none) none (fun _ _ _ _ => none) (fun _ _ _ _ => none) none (fun _ => none) none (fun _ _ _ => none) (fun _ => none) none (fun _ _ => none) (fun _ => none) (fun _ => none)
def AV.asPtr (x : AV) : Option (Nat × Nat) :=
  AV.casesOn (motive_1 := fun _ => Option (Nat × Nat)) x (fun _ => none) (fun _ _ => none) (fun _ => none) none (fun a b => some (a, b)) none (fun _ _ _ _ => none) (fun _ _ _ _ => none) none (fun _ => none) none (fun _ _ _ => none) (fun _ => none) none (fun _ _ => none) (fun _ => none) (fun _ => none)
def AV.asAgg (x : AV) : Option (List AV) :=
  AV.casesOn (motive_1 := fun _ => Option (List AV)) x (fun _ => none) (fun _ _ => none) (fun _ => none) none (fun _ _ => none) none (fun _ _ _ _ => none) (fun _ _ _ _ => none) none (fun _ => none) none (fun _ _ _ => none) (fun _ => none) none (fun _ _ => none) (fun l => some l) (fun _ => none)
def AV.asTup (x : AV) : Option (List AV) :=
  AV.casesOn (motive_1 := fun _ => Option (List AV)) x (fun _ => none) (fun _ _ => none) (fun _ => none) none (fun _ _ => none) none (fun _ _ _ _ => none) (fun _ _ _ _ => none) none (fun _ => none) none (fun _ _ _ => none) (fun _ => none) none (fun _ _ => none) (fun _ => none) (fun l => some l)
def AV.asMap (x : AV) : Option Nat :=
  AV.casesOn (motive_1 := fun _ => Option Nat) x (fun _ => none) (fun _ _ => none) (fun _ => none) none (fun _ _ => none) none (fun _ _ _ _ => none) (fun _ _ _ _ => none) none (fun i => some i) none (fun _ _ _ => none) (fun _ => none) none (fun _ _ => none) (fun _ => none) (fun _ => none)
/-- a slice: its row, its place there, its length -/
def AV.asSl (x : AV) : Option (Nat × Nat × Nat) :=
  AV.casesOn (motive_1 := fun _ => Option (Nat × Nat × Nat)) x (fun _ => none) (fun _ _ => none) (fun _ => none) none (fun _ _ => none) none (fun a b c _ => some (a, b, c)) (fun a b c _ => some (a, b, c)) none (fun _ => none) none (fun _ _ _ => none) (fun _ => none) none (fun _ _ => none) (fun _ => none) (fun _ => none)

inductive Ex where
  | normal | exit (id : Nat) | ret

inductive Tgt where
  | fn (f : Nat)
  | yield (l : Nat)

inductive ABlk where
  | row (size : Nat) (cells : List AV) (ov : Tr AV) (closed : Bool)
  | map (es : List (AV × AV))
  | loop (st : LoopState) (pend : Option Ex) (tm : Tr AV) (ps : List Nat) (assign body : Code)

structure AMem where
  next : Nat
  blks : Tr ABlk

def AMem.get (m : AMem) (i : Nat) : Option ABlk := Bool.casesOn (motive := fun _ => Option ABlk) (Nat.blt i m.next) none (m.blks.get i)
def AMem.add (m : AMem) (b : ABlk) : AMem := ⟨m.next + 1, m.blks.put m.next (some b)⟩
def AMem.put (m : AMem) (i : Nat) (b : ABlk) : AMem := ⟨m.next, m.blks.put i (some b)⟩
def AMem.kill (m : AMem) (i : Nat) : AMem := ⟨m.next, m.blks.put i none⟩

mutual
def ofVal : Value → Option AV
  | .bool b => some (.bool b)
  | .int k n => some (.int k n)
  | .string s => some (.str (s.data.toList.map (·.toNat)))
  | .pointer none => some .nilptr
  | .slice none 0 0 => some .nilslice
  | .map none => some .nilmap
  | .nilFunc => some .nilfunc
  | .nilIface => some .nilif
  | .agg ⟨l⟩ => match ofVals l with
    | some r => if r.all AV.scalar then some (.agg r) else none
    | none => none
  | .tuple ⟨l⟩ => match ofVals l with
    | some r => some (.tup r)
    | none => none
  | _ => none
def ofVals : List Value → Option (List AV)
  | [] => some []
  | v :: r => match ofVal v with
    | some a => match ofVals r with
      | some b => some (a :: b)
      | none => none
    | none => none
end

/-- what the evaluator knows of a type -/
structure TyI where
  u : TypeDesc
  size : Nat
  bytes : Nat
  zero : Option AV
  held : Bool

structure Env where
  ty : Nat → Option TyI
  fn : Nat → Option Func
  orc : Nat → Option (List AV → AMem → Option (AV × AMem))
  meth : Nat → String → Option Nat

structure St where
  tm : Tr AV
  mem : AMem

def isAggD : TypeDesc → Bool
  | .struct _ | .array _ _ => true
  | _ => false

abbrev R := Option (AV × AMem)
abbrev CallF := Tgt → List AV → AMem → R

def orUndef (a : Option AV) : Option AV := Option.casesOn (motive := fun _ => Option AV) a (some .undef) (fun a => some a)
def rd (tm : Tr AV) (o : Operand) : Option AV :=
  Operand.casesOn (motive := fun _ => Tr AV → Option AV) o (fun t tm => orUndef (tm.get t)) (fun v _ => ofVal v) (fun _ _ => none) (fun f _ => some (.func f [] [])) tm

def rds (tm : Tr AV) : List Operand → Option (List AV)
  | [] => some []
  | x :: r => match rd tm x with
    | some a => match rds tm r with
      | some b => some (a :: b)
      | none => none
    | none => none

/-! integers, in the kernel's own numbers -/
def addI (a b : Int) : Int :=
  Int.casesOn (motive := fun _ => Int) a (fun m => Int.casesOn (motive := fun _ => Int) b (fun n => .ofNat (Nat.add m n)) (fun n => Int.subNatNat m (Nat.succ n)))
    (fun m => Int.casesOn (motive := fun _ => Int) b (fun n => Int.subNatNat n (Nat.succ m)) (fun n => .negSucc (Nat.succ (Nat.add m n))))
def negI (b : Int) : Int := Int.casesOn (motive := fun _ => Int) b (fun n => Int.negOfNat n) (fun n => .ofNat (Nat.succ n))
def ltI (a b : Int) : Bool :=
  Int.casesOn (motive := fun _ => Bool) a (fun m => Int.casesOn (motive := fun _ => Bool) b (fun n => Nat.blt m n) (fun _ => false))
    (fun m => Int.casesOn (motive := fun _ => Bool) b (fun _ => true) (fun n => Nat.blt n m))
def eqI (a b : Int) : Bool :=
  Int.casesOn (motive := fun _ => Bool) a (fun m => Int.casesOn (motive := fun _ => Bool) b (fun n => Nat.beq m n) (fun _ => false))
    (fun m => Int.casesOn (motive := fun _ => Bool) b (fun _ => false) (fun n => Nat.beq m n))

/-- 2 to the power of a kind's bits -/
def modK (k : IntKind) : Nat := IntKind.casesOn (motive := fun _ => Nat) k 256 65536 4294967296 18446744073709551616 256 65536 4294967296 18446744073709551616
/-- the first number above all of a kind -/
def topK (k : IntKind) : Nat := IntKind.casesOn (motive := fun _ => Nat) k 128 32768 2147483648 9223372036854775808 256 65536 4294967296 18446744073709551616
/-- minus the least one of a kind -/
def lowK (k : IntKind) : Nat := IntKind.casesOn (motive := fun _ => Nat) k 128 32768 2147483648 9223372036854775808 0 0 0 0

/-- the number of a kind that a rest stands for -/
def restK (k : IntKind) (r : Nat) : Int := Bool.casesOn (motive := fun _ => Int) (Nat.blt r (topK k)) (Int.subNatNat r (modK k)) (.ofNat r)
/-- the rest of a number -/
def toU (k : IntKind) (n : Int) : Nat := Int.casesOn (motive := fun _ => Nat) n (fun m => Nat.mod m (modK k)) (fun m => Nat.sub (Nat.sub (modK k) 1) (Nat.mod m (modK k)))
def wrapI (k : IntKind) (n : Int) : Int :=
  Int.casesOn (motive := fun _ => Int) n (fun m => Bool.casesOn (motive := fun _ => Int) (Nat.blt m (topK k)) (restK k (Nat.mod m (modK k))) (.ofNat m))
    (fun m => Bool.casesOn (motive := fun _ => Int) (Nat.blt m (lowK k)) (restK k (Nat.sub (Nat.sub (modK k) 1) (Nat.mod m (modK k)))) (.negSucc m))
def eqK (j k : IntKind) : Bool := decide (j = k)

def eqBool (a b : Bool) : Bool := Bool.casesOn (motive := fun _ => Bool) a (!b) b
def eqList (x : List Nat) : List Nat → Bool :=
  List.rec (motive := fun _ => List Nat → Bool) (fun y => List.casesOn (motive := fun _ => Bool) y true (fun _ _ => false))
    (fun a _ ih y => List.casesOn (motive := fun _ => Bool) y false (fun b y => Bool.casesOn (motive := fun _ => Bool) (Nat.beq a b) false (ih y))) x

/-- the kinds of cells that are compared one by one -/
inductive CK where
  | bool | int | str

def eqIntC (x y : AV) : Option Bool :=
  Option.casesOn (motive := fun _ => Option Bool) x.asInt none fun p => Option.casesOn (motive := fun _ => Option Bool) y.asInt none fun q =>
    Bool.casesOn (motive := fun _ => Option Bool) (eqK p.1 q.1) none (some (eqI p.2 q.2))
def eqBoolC (x y : AV) : Option Bool :=
  Option.casesOn (motive := fun _ => Option Bool) x.asBool none fun p => Option.casesOn (motive := fun _ => Option Bool) y.asBool none fun q => some (eqBool p q)
def eqStrC (x y : AV) : Option Bool :=
  Option.casesOn (motive := fun _ => Option Bool) x.asStr none fun p => Option.casesOn (motive := fun _ => Option Bool) y.asStr none fun q => some (eqList p q)
def eqCell (k : CK) : AV → AV → Option Bool := CK.casesOn (motive := fun _ => AV → AV → Option Bool) k eqBoolC eqIntC eqStrC

def eqCells : List CK → List AV → List AV → Option Bool
  | [], [], [] => some true
  | k :: ks, a :: x, b :: y => match eqCell k a b with
    | some true => eqCells ks x y
    | some false => match eqCells ks x y with
      | some _ => some false
      | none => none
    | none => none
  | _, _, _ => none

def sizeT (E : Env) (t : Nat) : Nat := match E.ty t with | some i => i.size | none => 0

/-- one part behind the other -/
def catO : Option (List CK) → Option (List CK) → Option (List CK)
  | some a, some b => some (a ++ b)
  | _, _ => none
def timesO (n : Nat) : Option (List CK) → Option (List CK)
  | some a => some (List.replicate n a).flatten
  | none => none

/-- the kinds of a type's cells, one behind the other: of a type that is compared cell by cell -/
def flatT (E : Env) : Nat → Nat → Option (List CK)
  | 0, _ => none
  | d + 1, t => match E.ty t with
    | none => none
    | some i => match i.u with
      | .bool => if Nat.beq i.size 1 then some [.bool] else none
      | .int _ => if Nat.beq i.size 1 then some [.int] else none
      | .string => if Nat.beq i.size 1 then some [.str] else none
      | .struct fs => if i.held then none else
        fs.toList.foldl (fun acc f => match acc with
          | some l => if f.name != "_" && Nat.beq f.offset l.length then (match flatT E d f.type with
            | some r => if Nat.beq r.length (sizeT E f.type) then some (l ++ r) else none
            | none => none) else none
          | none => none) (some [])
      | .array n e => match flatT E d e with
        | some r => if Nat.beq r.length (sizeT E e) then some (List.replicate n r).flatten else none
        | none => none
      | _ => none

/-- nil against something, at a type -/
def eqNil (u : TypeDesc) (x y : AV) : Option Bool :=
  match u, x, y with
  | .bool, .bool a, .bool b => some (eqBool a b)
  | .pointer _, .nilptr, .nilptr => some true
  | .pointer _, .nilptr, .ptr .. => some false
  | .pointer _, .ptr .., .nilptr => some false
  | .slice _, .nilslice, .nilslice => some true
  | .slice _, .nilslice, .slice .. => some false
  | .slice _, .nilslice, .oslice .. => some false
  | .slice _, .slice .., .nilslice => some false
  | .slice _, .oslice .., .nilslice => some false
  | .map .., .nilmap, .nilmap => some true
  | .map .., .nilmap, .map _ => some false
  | .map .., .map _, .nilmap => some false
  | .func .., .nilfunc, .nilfunc => some true
  | .func .., .nilfunc, .func .. => some false
  | .func .., .func .., .nilfunc => some false
  | .interface _, .nilif, .iface .. => some false
  | .interface _, .iface .., .nilif => some false
  | _, _, _ => none

def eqAgg (E : Env) (t : Nat) (a b : List AV) : Option Bool :=
  match E.ty t with
  | some i => if isAggD i.u then (match flatT E 20 t with
    | some ks => eqCells ks a b
    | none => none) else none
  | none => none

def evEq (E : Env) (t : Nat) (x y : AV) : Option Bool :=
  match x.asAgg, y.asAgg with
  | some a, some b => eqAgg E t a b
  | _, _ => match E.ty t with
    | some i => eqNil i.u x y
    | none => none

/-- equality of keys, at the key's type -/
def aggEq (ks : List CK) (x y : AV) : Option Bool :=
  match x.asAgg, y.asAgg with
  | some a, some b => eqCells ks a b
  | _, _ => none

def keyEqAt (E : Env) (t : Nat) : Option (AV → AV → Option Bool) :=
  match E.ty t with
  | some i => match i.u with
    | .bool => some eqBoolC
    | .int _ => some eqIntC
    | .string => some eqStrC
    | .struct _ | .array _ _ => match flatT E 20 t with
      | some ks => some (aggEq ks)
      | none => none
    | _ => none
  | none => none

def strLess : List Nat → List Nat → Bool
  | _, [] => false
  | [], _ :: _ => true
  | a :: x, b :: y => Nat.blt a b || (Nat.beq a b && strLess x y)

def mkInt (k : IntKind) (n : Int) : Option AV := some (.int k n)
def mkBool (b : Bool) : Option AV := some (.bool b)

def evBits (op : BinOp) : IntKind → Nat → Nat → Option AV :=
  match op with
  | .and => fun k a b => mkInt k (restK k (Nat.land a b))
  | .or => fun k a b => mkInt k (restK k (Nat.lor a b))
  | .xor => fun k a b => mkInt k (restK k (Nat.xor a b))
  | .andNot => fun k a b => mkInt k (restK k (Nat.land a (Nat.xor b (Nat.sub (modK k) 1))))
  | _ => fun _ _ _ => none

def iAdd (k : IntKind) (a b : Int) : Option AV := mkInt k (wrapI k (addI a b))
def iSub (k : IntKind) (a b : Int) : Option AV := mkInt k (wrapI k (addI a (negI b)))
def iMul (k : IntKind) (a b : Int) : Option AV := mkInt k (wrapI k (a * b))
def iQuo (k : IntKind) (a b : Int) : Option AV := Bool.casesOn (motive := fun _ => Option AV) (eqI b 0) (mkInt k (wrapI k (a.tdiv b))) none
def iRem (k : IntKind) (a b : Int) : Option AV := Bool.casesOn (motive := fun _ => Option AV) (eqI b 0) (mkInt k (a.tmod b)) none
def iAnd (k : IntKind) (a b : Int) : Option AV := evBits .and k (toU k a) (toU k b)
def iOr (k : IntKind) (a b : Int) : Option AV := evBits .or k (toU k a) (toU k b)
def iXor (k : IntKind) (a b : Int) : Option AV := evBits .xor k (toU k a) (toU k b)
def iAndNot (k : IntKind) (a b : Int) : Option AV := evBits .andNot k (toU k a) (toU k b)
def iEql (_ : IntKind) (a b : Int) : Option AV := mkBool (eqI a b)
def iNeq (_ : IntKind) (a b : Int) : Option AV := mkBool (!eqI a b)
def iLss (_ : IntKind) (a b : Int) : Option AV := mkBool (ltI a b)
def iLeq (_ : IntKind) (a b : Int) : Option AV := mkBool (!ltI b a)
def iGtr (_ : IntKind) (a b : Int) : Option AV := mkBool (ltI b a)
def iGeq (_ : IntKind) (a b : Int) : Option AV := mkBool (!ltI a b)
def iNo (_ : IntKind) (_ _ : Int) : Option AV := none

def bitsK (k : IntKind) : Nat := IntKind.casesOn (motive := fun _ => Nat) k 8 16 32 64 8 16 32 64
/-- a shift's count, not above the kind's bits -/
def cnt (k : IntKind) (n : Nat) : Nat := Bool.casesOn (motive := fun _ => Nat) (Nat.ble n (bitsK k)) (bitsK k) n
def shlN (k : IntKind) (a : Int) (n : Nat) : Option AV :=
  mkInt k (wrapI k (Int.casesOn (motive := fun _ => Int) a (fun m => .ofNat (Nat.mul m (Nat.pow 2 (cnt k n)))) (fun m => .negSucc (Nat.sub (Nat.mul (Nat.succ m) (Nat.pow 2 (cnt k n))) 1))))
def shrN (k : IntKind) (a : Int) (n : Nat) : Option AV :=
  mkInt k (Int.casesOn (motive := fun _ => Int) a (fun m => .ofNat (Nat.div m (Nat.pow 2 (cnt k n)))) (fun m => .negSucc (Nat.div m (Nat.pow 2 (cnt k n)))))
def iShl (k : IntKind) (a b : Int) : Option AV := Int.casesOn (motive := fun _ => Option AV) b (fun n => shlN k a n) (fun _ => none)
def iShr (k : IntKind) (a b : Int) : Option AV := Int.casesOn (motive := fun _ => Option AV) b (fun n => shrN k a n) (fun _ => none)

/-- the operators on two numbers of one kind -/
def evInt (op : BinOp) : IntKind → Int → Int → Option AV :=
  match op with
  | .add => iAdd | .sub => iSub | .mul => iMul | .quo => iQuo | .rem => iRem | .and => iAnd | .or => iOr | .xor => iXor | .andNot => iAndNot
  | .eql => iEql | .neq => iNeq | .lss => iLss | .leq => iLeq | .gtr => iGtr | .geq => iGeq
  | .shl => iShl | .shr => iShr

def isShift (op : BinOp) : Bool :=
  match op with
  | .shl | .shr => true
  | _ => false

def evStr (op : BinOp) (a b : List Nat) : Option AV :=
  match op with
  | .add => if Nat.blt (a.length + b.length) 4611686018427387904 then some (.str (a ++ b)) else none
  | .lss => some (.bool (strLess a b))
  | .leq => some (.bool (strLess a b || eqList a b))
  | .gtr => some (.bool (!(strLess a b || eqList a b)))
  | .geq => some (.bool (!strLess a b))
  | .eql => some (.bool (eqList a b))
  | .neq => some (.bool (!(eqList a b)))
  | _ => none

def evBinR (E : Env) (op : BinOp) (t : Nat) (x y : AV) : Option AV :=
  match x.asStr, y.asStr with
  | some a, some b => evStr op a b
  | _, _ => match op with
    | .eql => match evEq E t x y with
      | some b => some (.bool b)
      | none => none
    | .neq => match evEq E t x y with
      | some b => some (.bool !b)
      | none => none
    | _ => none

def evBinI (op : BinOp) (k : IntKind) (a : Int) (j : IntKind) (b : Int) : Option AV :=
  Bool.casesOn (motive := fun _ => Option AV) (isShift op || eqK k j) none (evInt op k a b)

def evBin (E : Env) (op : BinOp) (t : Nat) (x y : AV) : Option AV :=
  Option.casesOn (motive := fun _ => Option AV) x.asInt (evBinR E op t x y) fun p =>
    Option.casesOn (motive := fun _ => Option AV) y.asInt none fun q => evBinI op p.1 p.2 q.1 q.2

def evUn (op : UnOp) (x : AV) : Option AV :=
  match op, x with
  | .neg, .int k n => some (.int k (wrapI k (negI n)))
  | .xor, .int k n => evBits .xor k (Nat.sub (modK k) 1) (toU k n)
  | .not, .bool b => some (.bool !b)
  | _, _ => none

def ovGo (ov : Tr AV) : List AV → Nat → List AV
  | [], _ => []
  | a :: r, i => ((ov.get i).getD a) :: ovGo ov r (i + 1)
/-- a row's cells from off on, n of them: what the list holds, under what was put over it -/
def ovl (ov : Tr AV) (l : List AV) (i : Nat) : List AV :=
  match ov with
  | .nil => l
  | ov => ovGo ov l i

def takeRow (off n : Nat) (size : Nat) (cells : List AV) (ov : Tr AV) (_ : Bool) : Option (List AV) :=
  Bool.casesOn (motive := fun _ => Option (List AV)) (Nat.ble (Nat.add off n) size) none (some (ovl ov ((cells.drop off).take n) off))
def takeBlk (off n : Nat) (b : ABlk) : Option (List AV) :=
  ABlk.casesOn (motive := fun _ => Option (List AV)) b (takeRow off n) (fun _ => none) (fun _ _ _ _ _ _ => none)
/-- n cells from off of a row; every one is there -/
def takeCells (m : AMem) (id off n : Nat) : Option (List AV) :=
  Option.casesOn (motive := fun _ => Option (List AV)) (m.get id) none (takeBlk off n)

def nthCell (l : List AV) (n : Nat) : Option AV :=
  List.rec (motive := fun _ => Nat → Option AV) (fun _ => none) (fun a _ ih n => Nat.casesOn (motive := fun _ => Option AV) n (some a) ih) l n
def oneRow (off : Nat) (size : Nat) (cells : List AV) (ov : Tr AV) (_ : Bool) : Option AV :=
  Bool.casesOn (motive := fun _ => Option AV) (Nat.blt off size) none (Option.casesOn (motive := fun _ => Option AV) (ov.get off) (nthCell cells off) (fun a => some a))
def oneBlk (off : Nat) (b : ABlk) : Option AV :=
  ABlk.casesOn (motive := fun _ => Option AV) b (oneRow off) (fun _ => none) (fun _ _ _ _ _ _ => none)
/-- one cell -/
def oneCell (m : AMem) (id off : Nat) : Option AV :=
  Option.casesOn (motive := fun _ => Option AV) (m.get id) none (oneBlk off)

def splice (cells : List AV) (off : Nat) (new : List AV) : List AV := cells.take off ++ (new ++ cells.drop (off + new.length))

def putRow (m : AMem) (id off : Nat) (new : List AV) (size : Nat) (cells : List AV) (ov : Tr AV) (closed : Bool) : Option AMem :=
  Bool.casesOn (motive := fun _ => Option AMem) (Nat.ble (Nat.add off new.length) size && new.all AV.scalar) none (some (m.put id (.row size (splice (ovl ov cells 0) off new) .nil closed)))
def putBlk (m : AMem) (id off : Nat) (new : List AV) (b : ABlk) : Option AMem :=
  ABlk.casesOn (motive := fun _ => Option AMem) b (putRow m id off new) (fun _ => none) (fun _ _ _ _ _ _ => none)
def putCells (m : AMem) (id off : Nat) (new : List AV) : Option AMem :=
  Option.casesOn (motive := fun _ => Option AMem) (m.get id) none (putBlk m id off new)

def put1Row (m : AMem) (id off : Nat) (x : AV) (size : Nat) (cells : List AV) (ov : Tr AV) (closed : Bool) : Option AMem :=
  Bool.casesOn (motive := fun _ => Option AMem) (Nat.blt off size) none (some (m.put id (.row size cells (ov.put off (some x)) closed)))
def put1Blk (m : AMem) (id off : Nat) (x : AV) (b : ABlk) : Option AMem :=
  ABlk.casesOn (motive := fun _ => Option AMem) b (put1Row m id off x) (fun _ => none) (fun _ _ _ _ _ _ => none)
def put1 (m : AMem) (id off : Nat) (x : AV) : Option AMem :=
  Bool.casesOn (motive := fun _ => Option AMem) x.scalar none (Option.casesOn (motive := fun _ => Option AMem) (m.get id) none (put1Blk m id off x))

/-- a new row, with all its cells -/
def newRowC (m : AMem) (cells : List AV) : AMem := m.add (.row cells.length cells .nil true)

/-- the cells of a slice's elements -/
def sliceCells (m : AMem) (es : Nat) : AV → Option (List AV)
  | .nilslice => some []
  | .slice id off len _ => if Nat.beq len 0 then some [] else takeCells m id off (len * es)
  | .oslice id off len _ => if Nat.beq len 0 then some [] else takeCells m id off (len * es)
  | _ => none

def lenOf : AV → Option Nat
  | .nilslice => some 0
  | .slice _ _ len _ => some len
  | .oslice _ _ len _ => some len
  | .str l => some l.length
  | _ => none

/-- the cells of what is appended or copied from -/
def srcCells (m : AMem) (es : Nat) : AV → Option (List AV)
  | .str l => if Nat.beq es 1 then some (l.map fun b => .int .u8 (Int.ofNat b)) else none
  | x => sliceCells m es x

def fillParts (place : Nat → Option (Nat × Nat)) (cells : List AV) : List (Nat × AV) → Option (List AV)
  | [] => some cells
  | (i, v) :: rest =>
    match place i with
    | none => none
    | some (off, size) => if v.cells.length = size ∧ off + size ≤ cells.length ∧ v.cells.all AV.scalar then fillParts place (splice cells off v.cells) rest else none

def rdParts (tm : Tr AV) : List (Nat × Operand) → Option (List (Nat × AV))
  | [] => some []
  | (i, x) :: r => match rd tm x with
    | some a => match rdParts tm r with
      | some b => some ((i, a) :: b)
      | none => none
    | none => none

def rep (n : Nat) (zero : List AV) : List AV := (List.replicate n zero).flatten

/-- the slice expression on a slice whose elements have es cells -/
def evSlice (m : AMem) (es : Nat) (x : AV) (lo hi mx : Option Nat) : Option AV :=
  let l := lo.getD 0
  match x with
  | .nilslice => if l = 0 ∧ hi.getD 0 = 0 ∧ mx.getD 0 = 0 then some .nilslice else none
  | .slice id off len cap =>
    let c := mx.getD cap
    let h := hi.getD len
    if c ≤ cap ∧ h ≤ c ∧ l ≤ h then some (.slice id (if c = l then off else off + l * es) (h - l) (c - l)) else none
  | .oslice id off len es' =>
    let h := hi.getD len
    if es' = es ∧ 0 < es then
      match mx with
      | some c => if c ≤ len ∧ h ≤ c ∧ l ≤ h then some (.slice id (if c = l then off else off + l * es) (h - l) (c - l)) else none
      | none =>
        if l ≤ h then
          if h ≤ len then some (.oslice id (off + l * es) (h - l) es)
          else match m.get id with
            | some (.row size _ _ _) => if off + h * es ≤ size then some (.oslice id (off + l * es) (h - l) es) else none
            | _ => none
        else none
    else none
  | _ => none

def mostBytes : Nat := 2 ^ 46

/-- append of n elements, whose cells are new; the old ones are read of the slice -/
def evAppend (m : AMem) (es bytes : Nat) (x : AV) (n : Nat) (new : List AV) : R :=
  if Nat.beq n 0 then (match x with | .nilslice | .slice .. | .oslice .. => some (x, m) | _ => none) else
  if Nat.beq es 0 || Nat.beq bytes 0 || !new.all AV.scalar || !Nat.beq new.length (n * es) then none else
  match x with
  | .nilslice =>
    if n * bytes ≤ mostBytes then some (.oslice m.next 0 n es, m.add (.row (n * es) new .nil false)) else none
  | .slice id off len cap =>
    if len + n ≤ cap then
      match putCells m id (off + len * es) new with
      | some m => some (.slice id off (len + n) cap, m)
      | none => none
    else if (len + n) * bytes ≤ mostBytes then
      match sliceCells m es x with
      | some old => some (.oslice m.next 0 (len + n) es, m.add (.row ((len + n) * es) (old ++ new) .nil false))
      | none => none
    else none
  | .oslice id off len es' =>
    match m.get id with
    | some (.row size _cells _ov false) =>
      if es' = es ∧ (len + n) * bytes ≤ mostBytes ∧ off + len * es ≤ size then
        if off + (len + n) * es ≤ size then
          match putCells m id (off + len * es) new with
          | some m => some (.oslice id off (len + n) es, m)
          | none => none
        else match takeCells m id off (len * es) with
          | some old => some (.oslice m.next 0 (len + n) es, (m.kill id).add (.row ((len + n) * es) (old ++ new) .nil false))
          | none => none
      else none
    | _ => none
  | _ => none

def rowOf : AV → Option (Nat × Nat)
  | .slice id off _ _ => some (id, off)
  | .oslice id off _ _ => some (id, off)
  | _ => none

/-- the first n elements' cells -/
def firstC (m : AMem) (es n : Nat) (x : AV) : Option (List AV) :=
  match x.asStr with
  | some l => if Nat.beq es 1 then some ((l.take n).map fun b => .int .u8 (Int.ofNat b)) else none
  | none => if Nat.beq (n * es) 0 then some [] else match rowOf x with
    | some (id, off) => takeCells m id off (n * es)
    | none => none

def copyTo (m : AMem) (n : Nat) (new : List AV) (d : AV) : R :=
  match new with
  | [] => some (.int .i64 (Int.ofNat n), m)
  | new => match rowOf d with
    | some (id, off) => match putCells m id off new with
      | some m => some (.int .i64 (Int.ofNat n), m)
      | none => none
    | none => none
def evCopy (m : AMem) (es : Nat) (d s : AV) : R :=
  match d.asStr, lenOf d, lenOf s with
  | none, some dl, some sl => match firstC m es (Nat.min sl dl) s with
    | some new => copyTo m (Nat.min sl dl) new d
    | none => none
  | _, _, _ => none

/-- is it a key of the kind at all? -/
def keyHere (eq : AV → AV → Option Bool) (k : AV) : Bool := (eq k k).isSome

def findKey (eq : AV → Option Bool) : List (AV × AV) → Option (Option AV)
  | [] => some none
  | (k, v) :: r => match eq k with
    | some true => some (some v)
    | some false => findKey eq r
    | none => none

def putKey (eq : AV → Option Bool) (k v : AV) : List (AV × AV) → Option (List (AV × AV))
  | [] => some [(k, v)]
  | (k', v') :: r => match eq k' with
    | some true => some ((k, v) :: r)
    | some false => match putKey eq k v r with
      | some r' => some ((k', v') :: r')
      | none => none
    | none => none

def delKey (eq : AV → Option Bool) : List (AV × AV) → Option (List (AV × AV))
  | [] => some []
  | (k', v') :: r => match eq k' with
    | some true => some r
    | some false => match delKey eq r with
      | some r' => some ((k', v') :: r')
      | none => none
    | none => none

def mmInt (take : Int → Int → Bool) (k : IntKind) : Int → List AV → Option AV
  | a, [] => some (.int k a)
  | a, .int _ b :: r => Bool.casesOn (motive := fun _ => Option AV) (take a b) (mmInt take k a r) (mmInt take k b r)
  | _, _ => none
def minInt : List AV → Option AV
  | .int k a :: r => mmInt (fun a b => ltI b a) k a r
  | _ => none
def maxInt : List AV → Option AV
  | .int k a :: r => mmInt (fun a b => ltI a b) k a r
  | _ => none

def mapAt (m : AMem) (id : Nat) : Option (List (AV × AV)) :=
  match m.get id with
  | some (.map es) => some es
  | _ => none
def mapList (m : AMem) : AV → Option (List (AV × AV))
  | .nilmap => some []
  | .map id => mapAt m id
  | _ => none

def bytesOf : List AV → Option (List Nat)
  | [] => some []
  | .int .u8 (.ofNat n) :: r => if Nat.blt n 256 then (match bytesOf r with
    | some l => some (n :: l)
    | none => none) else none
  | _ => none

def vm (m : AMem) (a : Option AV) : R := Option.casesOn (motive := fun _ => R) a none fun a => some (a, m)

def evAlloc (E : Env) (t : Nat) (m : AMem) : R :=
  match E.ty t with
  | some i => match i.zero with
    | some z => if z.cells.all AV.scalar then some (.ptr m.next 0, newRowC m z.cells) else none
    | none => none
  | none => none

def evBox (x : AV) (m : AMem) : R :=
  if x.cells.all AV.scalar then some (.ptr m.next 0, newRowC m x.cells) else none

def evBuild (E : Env) (t : Nat) (ps : List (Nat × AV)) : Option AV :=
  match E.ty t with
  | some i => match i.zero with
    | some z => if z.cells.all AV.scalar then match i.u with
      | .struct fs => if fs.toList.all fun f => (E.ty f.type).isSome then match fillParts (fun j => match fs[j]? with | some f => some (f.offset, sizeT E f.type) | none => none) z.cells ps with
        | some cs => some (.agg cs)
        | none => none
        else none
      | .array _ e => if (E.ty e).isSome then match fillParts (fun j => some (j * sizeT E e, sizeT E e)) z.cells ps with
        | some cs => some (.agg cs)
        | none => none
        else none
      | _ => none
      else none
    | none => none
  | none => none

def evBuildSlice (E : Env) (t len : Nat) (ps : List (Nat × AV)) (m : AMem) : R :=
  match E.ty t with
  | some i => match i.u with
    | .slice e => match E.ty e with
      | some ie => match ie.zero with
        | some z => if z.cells.all AV.scalar && Nat.beq z.cells.length ie.size && Nat.ble (len * ie.size) 16777216 then
            match fillParts (fun j => some (j * ie.size, ie.size)) (rep len z.cells) ps with
            | some cells => some (.slice m.next 0 len len, newRowC m cells)
            | none => none
          else none
        | none => none
      | none => none
    | _ => none
  | none => none

def aggR (m : AMem) (l : Option (List AV)) : R := Option.casesOn (motive := fun _ => R) l none fun l => some (.agg l, m)
def evLoadAt (i : TyI) (m : AMem) (id off : Nat) : R :=
  Bool.casesOn (motive := fun _ => R) (isAggD i.u) (vm m (oneCell m id off)) (aggR m (takeCells m id off i.size))
def evLoad (E : Env) (t : Nat) (x : AV) (m : AMem) : R :=
  Option.casesOn (motive := fun _ => R) (E.ty t) none fun i => Option.casesOn (motive := fun _ => R) x.asPtr none fun p => evLoadAt i m p.1 p.2

def unitR (m : Option AMem) : R := Option.casesOn (motive := fun _ => R) m none fun m => some (.undef, m)
def evStoreAt (i : TyI) (x : AV) (m : AMem) (id off : Nat) : R :=
  Option.casesOn (motive := fun _ => R) x.asAgg (Bool.casesOn (motive := fun _ => R) (Nat.beq i.size 1) none (unitR (put1 m id off x)))
    fun l => Bool.casesOn (motive := fun _ => R) (Nat.beq l.length i.size) none (unitR (putCells m id off l))
def evStore (E : Env) (t : Nat) (a x : AV) (m : AMem) : R :=
  Option.casesOn (motive := fun _ => R) (E.ty t) none fun i => Option.casesOn (motive := fun _ => R) a.asPtr none fun p => evStoreAt i x m p.1 p.2

def evNilCheck : AV → Option AV
  | .ptr a b => some (.ptr a b)
  | .iface a b => some (.iface a b)
  | .func a b c => some (.func a b c)
  | _ => none

/-- what a conversion does -/
inductive CV where
  | int (k : IntKind)
  | str
  | toBytes
  | toStr
def isByte (E : Env) (e : Nat) : Bool :=
  match E.ty e with
  | some ei => match ei.u with
    | .int .u8 => true
    | _ => false
  | none => false
def convT (E : Env) (s d : Nat) : Option CV :=
  match E.ty s with
  | some si => match E.ty d with
    | some di => match di.u, si.u with
      | .int k, .int _ => some (.int k)
      | .string, .string => some .str
      | .slice e, .string => if isByte E e then some .toBytes else none
      | .string, .slice e => if isByte E e then some .toStr else none
      | _, _ => none
    | none => none
  | none => none
def evConvert (E : Env) (s d : Nat) (x : AV) (m : AMem) : R :=
  match convT E s d with
  | some (.int k) => match x.asInt with
    | some p => some (.int k (wrapI k p.2), m)
    | none => none
  | some .str => match x.asStr with
    | some l => some (.str l, m)
    | none => none
  | some .toBytes => match x.asStr with
    | some l => some (.oslice m.next 0 l.length 1, m.add (.row l.length (l.map fun b => .int .u8 (Int.ofNat b)) .nil false))
    | none => none
  | some .toStr => match sliceCells m 1 x with
    | some cs => match bytesOf cs with
      | some l => some (.str l, m)
      | none => none
    | none => none
  | none => none

def evS2ap (E : Env) (t : Nat) (x : AV) : Option AV :=
  match E.ty t with
  | some i => match i.u with
    | .array n _ => if Nat.blt 0 n then match x with
      | .slice id off len _ => if Nat.ble n len then some (.ptr id off) else none
      | .oslice id off len _ => if Nat.ble n len then some (.ptr id off) else none
      | _ => none else none
    | _ => none
  | none => none

def evMakeSlice (E : Env) (t : Nat) (l c : AV) (m : AMem) : R :=
  match E.ty t with
  | some i => match i.u with
    | .slice e => match E.ty e with
      | some ie => match ie.zero with
        | some z => match l, c with
          | .int .i64 (.ofNat l), .int .i64 (.ofNat c) =>
            if l ≤ c ∧ c * ie.bytes ≤ mostBytes ∧ c < 2 ^ 62 ∧ z.cells.length = ie.size ∧ z.cells.all AV.scalar = true then
              some (.slice m.next 0 l c, m.add (.row (c * ie.size) (rep c z.cells) .nil true))
            else none
          | _, _ => none
        | none => none
      | none => none
    | _ => none
  | none => none

def natO : Option AV → Option (Option Nat)
  | none => some none
  | some (.int _ (.ofNat n)) => some (some n)
  | _ => none

def evSliceT (E : Env) (m : AMem) (e : Nat) (x : AV) (lo hi mx : Option Nat) : Option AV :=
  match E.ty e with
  | some ie => if mx.isNone || hi.isSome then evSlice m ie.size x lo hi mx else none
  | none => none
def evSubstr (s : List Nat) (lo hi : Option Nat) : Option AV :=
  if hi.getD s.length ≤ s.length ∧ lo.getD 0 ≤ hi.getD s.length then some (.str ((s.drop (lo.getD 0)).take (hi.getD s.length - lo.getD 0))) else none
def evSliceArr (E : Env) (m : AMem) (n e : Nat) (x : AV) (lo hi mx : Option Nat) : Option AV :=
  match x.asPtr with
  | some p => evSliceT E m e (.slice p.1 p.2 n n) lo hi mx
  | none => none
def evSliceOp (E : Env) (t : Nat) (x : AV) (lo hi mx : Option Nat) (m : AMem) : Option AV :=
  match E.ty t with
  | some i => match i.u with
    | .slice e => evSliceT E m e x lo hi mx
    | .string => match x.asStr, mx with
      | some s, none => evSubstr s lo hi
      | _, _ => none
    | .array n e => evSliceArr E m n e x lo hi mx
    | .pointer arr => match E.ty arr with
      | some ai => match ai.u with
        | .array n e => evSliceArr E m n e x lo hi mx
        | _ => none
      | none => none
    | _ => none
  | none => none

def fieldsOf (d : TypeDesc) : Option (Array Field) := match d with | .struct fs => some fs | _ => none
/-- a field: its type, its place; what no cell is it is not -/
def fieldAt (E : Env) (t j : Nat) : Option Field :=
  match E.ty t with
  | some i => match fieldsOf i.u with
    | some fs => fs[j]?
    | none => none
  | none => none
def fieldOff (E : Env) (t j : Nat) : Option Nat :=
  match fieldAt E t j with
  | some f => if Nat.beq (sizeT E f.type) 0 then none else some f.offset
  | none => none
def evFieldAddr (E : Env) (t : Nat) (x : AV) (j : Nat) : Option AV :=
  Option.casesOn (motive := fun _ => Option AV) (fieldOff E t j) none fun o => Option.casesOn (motive := fun _ => Option AV) x.asPtr none fun p => some (.ptr p.1 (Nat.add p.2 o))

def evPart (E : Env) (t : Nat) (cs : List AV) (off : Nat) : Option AV :=
  match E.ty t with
  | some i => if isAggD i.u then some (.agg ((cs.drop off).take i.size)) else cs[off]?
  | none => none

def evField (E : Env) (t : Nat) (x : AV) (j : Nat) : Option AV :=
  Option.casesOn (motive := fun _ => Option AV) (fieldAt E t j) none fun f => Option.casesOn (motive := fun _ => Option AV) x.asAgg none fun cs => evPart E f.type cs f.offset

/-- what an index speaks of: an array's length, or none of a slice; the element's cells -/
def withSize (E : Env) (l : Option Nat) (e : Nat) : Option (Option Nat × Nat) :=
  match E.ty e with
  | some ie => some (l, ie.size)
  | none => none
def idxT (E : Env) (t : Nat) : Option (Option Nat × Nat) :=
  match E.ty t with
  | some i => match i.u with
    | .array len e => withSize E (some len) e
    | .slice e => withSize E none e
    | _ => none
  | none => none
def idxPtr (id off n len es : Nat) : Option AV :=
  Bool.casesOn (motive := fun _ => Option AV) (Nat.blt n len) none (some (.ptr id (Nat.add off (Nat.mul n es))))
def idxAt (x : AV) (n : Nat) (l : Option Nat) (es : Nat) : Option AV :=
  Option.casesOn (motive := fun _ => Option AV) l (Option.casesOn (motive := fun _ => Option AV) x.asSl none fun q => idxPtr q.1 q.2.1 n q.2.2 es)
    (fun len => Option.casesOn (motive := fun _ => Option AV) x.asPtr none fun p => idxPtr p.1 p.2 n len es)
def evIndexAddr (E : Env) (t : Nat) (x : AV) (n : Nat) : Option AV :=
  Option.casesOn (motive := fun _ => Option AV) (idxT E t) none fun q => idxAt x n q.1 q.2

def evIndex (E : Env) (t : Nat) (x : AV) (n : Nat) : Option AV :=
  match E.ty t with
  | some i => match i.u, x with
    | .array len e, .agg cs => if Nat.blt n len then evPart E e cs (n * sizeT E e) else none
    | .string, .str s => match s[n]? with
      | some b => some (.int .u8 (Int.ofNat b))
      | none => none
    | _, _ => none
  | none => none

def zeroOf (E : Env) (t : Nat) : Option AV := match E.ty t with | some i => i.zero | none => none

def okPair (ok : Bool) (v : AV) (b : Bool) : AV := if ok then .tup [v, .bool b] else v

/-- a map type: how its keys are compared, its elements' type -/
def mapT (E : Env) (t : Nat) : Option ((AV → AV → Option Bool) × Nat) :=
  match E.ty t with
  | some i => match i.u with
    | .map kt et => match keyEqAt E kt with
      | some eq => some (eq, et)
      | none => none
    | _ => none
  | none => none

def lookR (E : Env) (et : Nat) (ok : Bool) (m : AMem) : Option (Option AV) → R
  | some (some r) => some (okPair ok r true, m)
  | some none => match zeroOf E et with
    | some z => some (okPair ok z false, m)
    | none => none
  | none => none

def evLookup (E : Env) (t : Nat) (x k : AV) (ok : Bool) (m : AMem) : R :=
  match mapT E t with
  | some (eq, et) => match mapList m x with
    | some es => if keyHere eq k then lookR E et ok m (findKey (eq k) es) else none
    | none => none
  | none => none

def putMapR (m : AMem) (id : Nat) (v : AV) : Option (List (AV × AV)) → R
  | some es => some (v, m.put id (.map es))
  | none => none

def evMapUpdate (E : Env) (t : Nat) (x k y : AV) (m : AMem) : R :=
  match mapT E t, x.asMap with
  | some (eq, _), some id => match mapAt m id with
    | some es => if keyHere eq k then putMapR m id .undef (putKey (eq k) k y es) else none
    | none => none
  | _, _ => none

def evDelete (E : Env) (t : Nat) (x k : AV) (m : AMem) : R :=
  match mapT E t, x.asMap with
  | some (eq, _), some id => match mapAt m id with
    | some es => if keyHere eq k then putMapR m id (.tup []) (delKey (eq k) es) else none
    | none => none
  | _, _ => none

def evClear (E : Env) (t : Nat) (x : AV) (m : AMem) : R :=
  match E.ty t with
  | some i => match i.u, x with
    | .slice _, .nilslice => some (.tup [], m)
    | .map .., .nilmap => some (.tup [], m)
    | .map .., .map id => match m.get id with
      | some (.map _) => some (.tup [], m.put id (.map []))
      | _ => none
    | .slice e, x => match lenOf x with
      | some n => if Nat.beq n 0 then (match rowOf x with
          | some _ => some (.tup [], m)
          | none => none) else match E.ty e with
        | some ie => match ie.zero with
          | some z => if Nat.beq z.cells.length ie.size then match rowOf x with
            | some (id, off) => match putCells m id off (rep n z.cells) with
              | some m => some (.tup [], m)
              | none => none
            | none => none
            else none
          | none => none
        | none => none
      | none => none
    | _, _ => none
  | none => none

def evLen (E : Env) (t : Nat) (x : AV) (m : AMem) : R :=
  match E.ty t with
  | some i => match i.u, x with
    | .string, .str l => some (.int .i64 (Int.ofNat l.length), m)
    | .slice _, .nilslice => some (.int .i64 0, m)
    | .slice _, .slice _ _ n _ => some (.int .i64 (Int.ofNat n), m)
    | .slice _, .oslice _ _ n _ => some (.int .i64 (Int.ofNat n), m)
    | .map .., x => match mapList m x with
      | some es => some (.int .i64 (Int.ofNat es.length), m)
      | none => none
    | .array n _, _ => some (.int .i64 (Int.ofNat n), m)
    | _, _ => none
  | none => none

def evCap (E : Env) (t : Nat) (x : AV) (m : AMem) : R :=
  match E.ty t with
  | some i => match i.u, x with
    | .slice _, .nilslice => some (.int .i64 0, m)
    | .slice _, .slice _ _ _ c => some (.int .i64 (Int.ofNat c), m)
    | _, _ => none
  | none => none

def isIntD : TypeDesc → Bool
  | .int _ => true
  | _ => false

/-- append's types: the element, its zero, whether the second operand is a number of zeros -/
def appT (E : Env) (ts : List Nat) : Option (TyI × AV × Bool) :=
  match ts with
  | [t, u] => match E.ty t with
    | some i => match i.u with
      | .slice e => match E.ty e, E.ty u with
        | some ie, some iu => match ie.zero with
          | some z => if Nat.beq z.cells.length ie.size then some (ie, z, isIntD iu.u) else none
          | none => none
        | _, _ => none
      | _ => none
    | none => none
  | _ => none

def appZeros (ie : TyI) (z : AV) (x y : AV) (m : AMem) : R :=
  match y with
  | .int .i64 (.ofNat n) => if Nat.ble (n * ie.bytes) mostBytes && Nat.blt n (2 ^ 62) then evAppend m ie.size ie.bytes x n (rep n z.cells) else none
  | _ => none
def appCells (ie : TyI) (x y : AV) (m : AMem) : R :=
  match lenOf y, srcCells m ie.size y with
  | some n, some new => evAppend m ie.size ie.bytes x n new
  | _, _ => none

def evAppendOp (E : Env) (ts : List Nat) (x y : AV) (m : AMem) : R :=
  match appT E ts with
  | some (ie, z, zb) => if zb then appZeros ie z x y m else appCells ie x y m
  | none => none

def evBuiltin (E : Env) (b : Builtin) (ts : List Nat) (args : List AV) (m : AMem) : R :=
  match b, args, ts with
  | .len, [x], t :: _ => evLen E t x m
  | .cap, [x], t :: _ => evCap E t x m
  | .append, [x, y], ts => evAppendOp E ts x y m
  | .copy, [d, s], t :: _ => match E.ty t with
    | some i => match i.u with
      | .slice e => match E.ty e with
        | some ie => evCopy m ie.size d s
        | none => none
      | _ => none
    | none => none
  | .min, l, _ => vm m (minInt l)
  | .max, l, _ => vm m (maxInt l)
  | .delete, [x, k], t :: _ => evDelete E t x k m
  | .clear, [x], t :: _ => evClear E t x m
  | _, _, _ => none

def evTypeAssert (E : Env) (x : AV) (t : Nat) (ok : Bool) : Option AV :=
  match E.ty t with
  | some i => match i.u with
    | .interface _ => none
    | _ => match x with
      | .iface d y => if Nat.beq d t then some (okPair ok y true) else if ok then (match i.zero with | some z => some (.tup [z, .bool false]) | none => none) else none
      | .nilif => if ok then (match i.zero with | some z => some (.tup [z, .bool false]) | none => none) else none
      | _ => none
  | none => none

def evCallOp (E : Env) (call : CallF) (c : Call) (tm : Tr AV) (m : AMem) : R :=
  match rds tm c.args.toList with
  | some args => match c.callee with
    | .value f => match rd tm f with
      | some (.func g first captured) => call (.fn g) (first ++ args ++ captured) m
      | some (.yieldf l) => call (.yield l) args m
      | _ => none
    | .invoke x name => match rd tm x with
      | some (.iface t a) => match E.meth t name with
        | some g => call (.fn g) (a :: args) m
        | none => none
      | _ => none
    | .builtin b => evBuiltin E b c.argTypes.toList args m
  | none => none

def evPick : Option AV → Option AV → Option AV → Option AV
  | some (.bool true), a, _ => a
  | some (.bool false), _, b => b
  | _, _, _ => none

def evMakeFunc (fn : Fn) (first captured : Option (List AV)) : Option AV :=
  match fn, first, captured with
  | .func f, some a, some b => some (.func f a b)
  | _, _, _ => none

def isIf (E : Env) (t : Nat) : Bool := match E.ty t with
  | some i => match i.u with
    | .interface _ => true
    | _ => false
  | none => true

def evExtract (x : AV) (i : Nat) : Option AV :=
  match x with
  | .tup l => l[i]?
  | _ => none

def on1 (a : Option AV) (f : AV → R) : R := Option.casesOn (motive := fun _ => R) a none f
def on2 (a b : Option AV) (f : AV → AV → R) : R := Option.casesOn (motive := fun _ => R) a none fun x => Option.casesOn (motive := fun _ => R) b none (f x)
def onNat (a : Option AV) (f : Nat → R) : R := Option.casesOn (motive := fun _ => R) a none fun x => Option.casesOn (motive := fun _ => R) x.asNat none f

abbrev OpF := Env → CallF → Tr AV → AMem → R
def opMove (x : Operand) : OpF := fun _ _ tm m => vm m (rd tm x)
def opPick (c a b : Operand) : OpF := fun _ _ tm m => vm m (evPick (rd tm c) (rd tm a) (rd tm b))
def opAlloc (t : TypeId) : OpF := fun E _ _ m => evAlloc E t m
def opBox (_ : TypeId) (x : Operand) : OpF := fun _ _ tm m => on1 (rd tm x) fun a => evBox a m
def opBuild (t : TypeId) (parts : Array (Nat × Operand)) : OpF := fun E _ tm m => match rdParts tm parts.toList with
    | some ps => vm m (evBuild E t ps)
    | none => none
def opBuildSlice (t : TypeId) (len : Nat) (parts : Array (Nat × Operand)) : OpF := fun E _ tm m => match rdParts tm parts.toList with
    | some ps => evBuildSlice E t len ps m
    | none => none
def opLoad (t : TypeId) (x : Operand) : OpF := fun E _ tm m => on1 (rd tm x) fun a => evLoad E t a m
def opStore (t : TypeId) (a x : Operand) : OpF := fun E _ tm m => on2 (rd tm a) (rd tm x) fun a x => evStore E t a x m
def opNilCheck (x : Operand) : OpF := fun _ _ tm m => on1 (rd tm x) fun a => vm m (evNilCheck a)
def opBin (op : BinOp) (t : TypeId) (x y : Operand) (_ : TypeId) : OpF := fun E _ tm m => on2 (rd tm x) (rd tm y) fun a b => vm m (evBin E op t a b)
def opUn (op : UnOp) (_ : TypeId) (x : Operand) : OpF := fun _ _ tm m => on1 (rd tm x) fun a => vm m (evUn op a)
def opConvert (s d : TypeId) (x : Operand) : OpF := fun E _ tm m => on1 (rd tm x) fun a => evConvert E s d a m
def opS2ap (t : TypeId) (x : Operand) : OpF := fun E _ tm m => on1 (rd tm x) fun a => vm m (evS2ap E t a)
def opIface (t : TypeId) (x : Operand) : OpF := fun E _ tm m => on1 (rd tm x) fun a => if isIf E t then none else some (.iface t a, m)
def opMakeFunc (fn : Fn) (first captured : Array Operand) : OpF := fun _ _ tm m => vm m (evMakeFunc fn (rds tm first.toList) (rds tm captured.toList))
def opMakeMap (_ : TypeId) (r : Option Operand) : OpF := fun _ _ _ m => match r with | none => some (.map m.next, m.add (.map [])) | some _ => none
def opMakeSlice (t : TypeId) (l c : Operand) : OpF := fun E _ tm m => on2 (rd tm l) (rd tm c) fun l c => evMakeSlice E t l c m
def opSlice (t : TypeId) (x : Operand) (lo hi mx : Option Operand) : OpF := fun E _ tm m => on1 (rd tm x) fun a => match natO (lo.map fun o => (rd tm o).getD .undef), natO (hi.map fun o => (rd tm o).getD .undef), natO (mx.map fun o => (rd tm o).getD .undef) with
    | some lo, some hi, some mx => vm m (evSliceOp E t a lo hi mx m)
    | _, _, _ => none
def opFieldAddr (t : TypeId) (x : Operand) (j : Nat) : OpF := fun E _ tm m => on1 (rd tm x) fun a => vm m (evFieldAddr E t a j)
def opField (t : TypeId) (x : Operand) (j : Nat) : OpF := fun E _ tm m => on1 (rd tm x) fun a => vm m (evField E t a j)
def opIndexAddr (t : TypeId) (x ix : Operand) : OpF := fun E _ tm m => on1 (rd tm x) fun a => onNat (rd tm ix) fun n => vm m (evIndexAddr E t a n)
def opIndex (t : TypeId) (x ix : Operand) : OpF := fun E _ tm m => on1 (rd tm x) fun a => onNat (rd tm ix) fun n => vm m (evIndex E t a n)
def opLookup (t : TypeId) (x k : Operand) (ok : Bool) : OpF := fun E _ tm m => on2 (rd tm x) (rd tm k) fun a k => evLookup E t a k ok m
def opMapUpdate (t : TypeId) (x k y : Operand) : OpF := fun E _ tm m => on2 (rd tm x) (rd tm k) fun a k => on1 (rd tm y) fun y => evMapUpdate E t a k y m
def opExtract (x : Operand) (i : Nat) : OpF := fun _ _ tm m => on1 (rd tm x) fun a => vm m (evExtract a i)
def opTypeAssert (x : Operand) (_ t : TypeId) (ok : Bool) : OpF := fun E _ tm m => on1 (rd tm x) fun a => vm m (evTypeAssert E a t ok)
def opCall (c : Call) : OpF := fun E call tm m => evCallOp E call c tm m
def opNo : OpF := fun _ _ _ _ => none

def evOpF (op : Op) : OpF :=
  Op.casesOn (motive := fun _ => OpF) op opMove opMove opPick opAlloc opBox opBuild opBuildSlice opMapUpdate opLoad opStore (fun _ => opNo) (fun _ => opNo)
    opNilCheck opBin opUn opConvert opS2ap opIface opMakeFunc opMakeMap (fun _ _ => opNo) opMakeSlice opSlice opFieldAddr opField opIndexAddr opIndex opLookup opMapUpdate
    (fun _ _ _ => opNo) (fun _ _ _ _ => opNo) (fun _ _ => opNo) (fun _ _ => opNo) (fun _ => opNo) opTypeAssert opExtract opCall (fun _ => opNo) (fun _ => opNo) (fun _ => opNo) (fun _ _ => opNo) (fun _ _ _ => opNo) (fun _ _ => opNo)

def evOp (E : Env) (call : CallF) (op : Op) (tm : Tr AV) (m : AMem) : R := evOpF op E call tm m

def setDst (tm : Tr AV) (d : Option Nat) (v : AV) : Tr AV :=
  match d with
  | some t => tm.put t (some v)
  | none => tm

def wanted (ops : Array Oper) (tm : Tr AV) (o : Oper) : Bool :=
  match o.guard with
  | none => true
  | some (j, want) => match ops[j]? with
    | some oj => match oj.dst with
      | some t => match tm.get t with
        | some (.bool b) => b == want
        | _ => false
      | none => false
    | none => false

def opsK (ih : Env → CallF → Array Oper → St → Option St) (dst : Option Nat) (tm : Tr AV) (E : Env) (call : CallF) (ops : Array Oper) (r : R) : Option St :=
  Option.casesOn (motive := fun _ => Option St) r none fun x => Prod.casesOn (motive := fun _ => Option St) x fun v m => ih E call ops ⟨setDst tm dst v, m⟩

def opsG (o : Oper) (ih : Env → CallF → Array Oper → St → Option St) (E : Env) (call : CallF) (ops : Array Oper) (tm : Tr AV) (m : AMem) (w : Bool) : Option St :=
  Bool.casesOn (motive := fun _ => Option St) w (ih E call ops ⟨setDst tm o.dst .undef, m⟩) (opsK ih o.dst tm E call ops (evOpF o.op E call tm m))

def opsStep (o : Oper) (ih : Env → CallF → Array Oper → St → Option St) (E : Env) (call : CallF) (ops : Array Oper) (s : St) : Option St :=
  St.casesOn (motive := fun _ => Option St) s fun tm m => opsG o ih E call ops tm m (wanted ops tm o)

def evOpsF (l : List Oper) : Env → CallF → Array Oper → St → Option St :=
  List.rec (motive := fun _ => Env → CallF → Array Oper → St → Option St) (fun _ _ _ s => some s) (fun o _ ih => opsStep o ih) l

def evOps (E : Env) (call : CallF) (ops : Array Oper) (l : List Oper) (s : St) : Option St := evOpsF l E call ops s

/-! ### Regions that draw their order: what each operation met, and whether it would have met the same elsewhere -/
def effectOp : Op → Bool
  | .store .. | .mapUpdate .. | .insert .. => true
  | .call c => match c.callee with
    | .builtin b => match b with
      | .len | .cap | .min | .max => false
      | _ => true
    | _ => true
  | _ => false

/-- reads memory or makes a block, and does nothing else -/
def readOp : Op → Bool
  | .load .. | .lookup .. | .convert .. | .slice .. | .alloc .. | .box .. | .buildSlice .. | .makeMap .. | .makeSlice .. => true
  | .call c => match c.callee with
    | .builtin b => match b with
      | .len => true
      | _ => false
    | _ => false
  | _ => false

/-- is op i before op j, by the edges that always bind? -/
def isBefore (b : Array Nat) (i j : Nat) : Bool := (b.getD j 0).testBit i

/-- the effects that stand in no order with op i -/
def loose (ops : Array Oper) (b : Array Nat) (i : Nat) : List Nat :=
  (List.range ops.size).filter fun j => match ops[j]? with
    | some o => effectOp o.op && !isBefore b i j && !isBefore b j i && j != i
    | none => false

/-- two effects that stand in no order: none of these regions is run -/
def clash (ops : Array Oper) (b : Array Nat) : Bool :=
  (List.range ops.size).any fun i => match ops[i]? with
    | some o => effectOp o.op && !(loose ops b i).isEmpty
    | none => false

/-- the readers that have loose effects -/
def looseReads (ops : Array Oper) : Option (List (Nat × List Nat)) :=
  let b := Region.before ops
  if clash ops b then none else
  some (((List.range ops.size).filter fun i => match ops[i]? with | some o => readOp o.op | none => false).filterMap fun i =>
    match loose ops b i with
    | [] => none
    | l => some (i, l))

/-- one operation of a region, in the text's order -/
def stepI (E : Env) (call : CallF) (ops : Array Oper) (i : Nat) (s : St) : Option St :=
  match ops[i]? with
  | none => some s
  | some o => match wanted ops s.tm o with
    | false => some ⟨setDst s.tm o.dst .undef, s.mem⟩
    | true => match evOp E call o.op s.tm s.mem with
      | some (v, m) => some ⟨setDst s.tm o.dst v, m⟩
      | none => none

mutual
def AV.beq : AV → AV → Bool
  | .bool a, .bool b => a == b
  | .int j a, .int k b => decide (j = k) && decide (a = b)
  | .str a, .str b => a == b
  | .nilptr, .nilptr => true
  | .ptr a b, .ptr c d => Nat.beq a c && Nat.beq b d
  | .nilslice, .nilslice => true
  | .slice a b c d, .slice a' b' c' d' => Nat.beq a a' && Nat.beq b b' && Nat.beq c c' && Nat.beq d d'
  | .oslice a b c d, .oslice a' b' c' d' => Nat.beq a a' && Nat.beq b b' && Nat.beq c c' && Nat.beq d d'
  | .nilmap, .nilmap => true
  | .map a, .map b => Nat.beq a b
  | .nilfunc, .nilfunc => true
  | .func f a b, .func f' a' b' => Nat.beq f f' && AV.beqs a a' && AV.beqs b b'
  | .yieldf a, .yieldf b => Nat.beq a b
  | .nilif, .nilif => true
  | .iface t a, .iface u b => Nat.beq t u && AV.beq a b
  | .agg a, .agg b => AV.beqs a b
  | .tup a, .tup b => AV.beqs a b
  | _, _ => false
def AV.beqs : List AV → List AV → Bool
  | [], [] => true
  | a :: x, b :: y => AV.beq a b && AV.beqs x y
  | _, _ => false
end

def noCall : CallF := fun _ _ _ => none

/-- would the reader have read the same there? -/
def sameAt (E : Env) (op : Op) (tm : Tr AV) (v : AV) (m : AMem) : Bool :=
  match evOp E noCall op tm m with
  | some (u, m') => AV.beq v u && Nat.beq m'.next m.next
  | none => false

/-- is it the fresh row still? -/
def ABlk.beq : ABlk → ABlk → Bool
  | .row s c .nil cl, .row s' c' .nil cl' => Nat.beq s s' && AV.beqs c c' && (cl == cl')
  | .map [], .map [] => true
  | _, _ => false
def blkSame (a b : Option ABlk) : Bool := match a, b with
  | some a, some b => ABlk.beq a b
  | _, _ => false

/-- the snapshots of a region's run: at each effect the memory before and behind it; at each loose reader its temporaries and what it read; at each loose maker the block that it made -/
structure Snaps where
  effs : List (Nat × AMem × AMem)
  reads : List (Nat × Op × Tr AV × AV)
  news : List (Nat × Nat × Option ABlk)

def snap (lr : List (Nat × List Nat)) (i : Nat) (op : Op) (s : St) (v : AV) (m : AMem) (sn : Snaps) : Snaps :=
  if effectOp op then ⟨(i, s.mem, m) :: sn.effs, sn.reads, sn.news⟩
  else match lr.lookup i with
    | some _ => if Nat.beq m.next s.mem.next then ⟨sn.effs, (i, op, s.tm, v) :: sn.reads, sn.news⟩ else ⟨sn.effs, sn.reads, (i, s.mem.next, m.get s.mem.next) :: sn.news⟩
    | none => sn

def evDraw (E : Env) (call : CallF) (ops : Array Oper) (lr : List (Nat × List Nat)) : List Nat → St → Snaps → Option (St × Snaps)
  | [], s, sn => some (s, sn)
  | i :: r, s, sn => match ops[i]? with
    | none => none
    | some o => match wanted ops s.tm o with
      | false => evDraw E call ops lr r ⟨setDst s.tm o.dst .undef, s.mem⟩ sn
      | true => match evOp E call o.op s.tm s.mem with
        | some (v, m) => if Nat.ble s.mem.next m.next then evDraw E call ops lr r ⟨setDst s.tm o.dst v, m⟩ (snap lr i o.op s v m sn) else none
        | none => none

def stable (E : Env) (lr : List (Nat × List Nat)) (sn : Snaps) : Bool :=
  (sn.reads.all fun (i, op, tm, v) => match lr.lookup i with
    | some js => sn.effs.all fun (j, mb, ma) => !js.contains j || (sameAt E op tm v mb && sameAt E op tm v ma)
    | none => true) &&
  (sn.news.all fun (i, id, b) => match lr.lookup i with
    | some js => sn.effs.all fun (j, _, ma) => !js.contains j || Nat.blt j i || blkSame (ma.get id) b
    | none => true)

def evRegion (E : Env) (call : CallF) (ops : Array Oper) (draw : Bool) (s : St) : Option St :=
  match draw with
  | false => evOps E call ops ops.toList s
  | true => match looseReads ops with
    | some lr => match evDraw E call ops lr (List.range ops.size) s ⟨[], [], []⟩ with
      | some (s', sn) => if stable E lr sn then some s' else none
      | none => none
    | none => none

def loopK (ih : (St → Option (Ex × St)) → St → Option (Ex × St)) (f : St → Option (Ex × St)) (ex : Ex) (s : St) : Option (Ex × St) :=
  Ex.casesOn (motive := fun _ => Option (Ex × St)) ex (ih f s) (fun id => some (.exit id, s)) (some (.ret, s))
def loopF (n : Nat) : (St → Option (Ex × St)) → St → Option (Ex × St) :=
  Nat.rec (motive := fun _ => (St → Option (Ex × St)) → St → Option (Ex × St)) (fun _ _ => none)
    (fun _ ih f s => Option.casesOn (motive := fun _ => Option (Ex × St)) (f s) none fun x => Prod.casesOn (motive := fun _ => Option (Ex × St)) x fun ex s => loopK ih f ex s) n
def loopIt (f : St → Option (Ex × St)) (n : Nat) (s : St) : Option (Ex × St) := loopF n f s

def inBlock (id : Nat) : Option (Ex × St) → Option (Ex × St)
  | some (.exit j, s) => if Nat.beq j id then some (.normal, s) else some (.exit j, s)
  | r => r

def hasBody (E : Env) (f : Nat) : Bool := match E.fn f with
  | some fn => match fn.body with
    | some _ => true
    | none => false
  | none => false

def evRange (E : Env) (call : CallF) (g : Option AV) (ps : List Nat) (assign body : Code) (s : St) : Option (Ex × St) :=
  match g with
  | some (.func f first captured) => if hasBody E f then
    match call (.fn f) (first ++ .yieldf s.mem.next :: captured) (s.mem.add (.loop .ready none s.tm ps assign body)) with
    | some (_, m') => match m'.get s.mem.next with
      | some (.loop st pend tm qs asg bd) => match st with
        | .busy => none
        | _ => some (pend.getD .normal, ⟨s.tm, m'.put s.mem.next (.loop .exhausted pend tm qs asg bd)⟩)
      | _ => none
    | none => none else none
  | _ => none

abbrev CodeF := Env → CallF → Nat → St → Option (Ex × St)
def cdSeqK (ib : CodeF) (E : Env) (call : CallF) (fuel : Nat) (ex : Ex) (s : St) : Option (Ex × St) :=
  Ex.casesOn (motive := fun _ => Option (Ex × St)) ex (ib E call fuel s) (fun id => some (.exit id, s)) (some (.ret, s))
def cdSeq (ia ib : CodeF) : CodeF := fun E call fuel s =>
  Option.casesOn (motive := fun _ => Option (Ex × St)) (ia E call fuel s) none fun x => Prod.casesOn (motive := fun _ => Option (Ex × St)) x fun ex s => cdSeqK ib E call fuel ex s
def boolOf (a : Option AV) : Option Bool := Option.casesOn (motive := fun _ => Option Bool) a none AV.asBool
def cdCond (c : Operand) (ia ib : CodeF) : CodeF := fun E call fuel s =>
  Option.casesOn (motive := fun _ => Option (Ex × St)) (boolOf (rd s.tm c)) none fun b => Bool.casesOn (motive := fun _ => Option (Ex × St)) b (ib E call fuel s) (ia E call fuel s)
def cdRegion (ops : Array Oper) (draw : Bool) : CodeF := fun E call _ s =>
  Option.casesOn (motive := fun _ => Option (Ex × St)) (evRegion E call ops draw s) none fun s => some (.normal, s)
def cdBlock (id : Nat) (ic : CodeF) : CodeF := fun E call fuel s => inBlock id (ic E call fuel s)
def cdLoop (ic : CodeF) : CodeF := fun E call fuel s => loopIt (ic E call fuel) fuel s
def cdRange (g : Operand) (ps : Array Tmp) (a b : Code) : CodeF := fun E call _ s => evRange E call (rd s.tm g) ps.toList a b s
def cdNo : CodeF := fun _ _ _ _ => none

def evCodeF (c : Code) : CodeF :=
  Code.rec (motive := fun _ => CodeF) (fun _ _ _ s => some (.normal, s)) (fun _ ops draw => cdRegion ops draw) (fun _ _ ia ib => cdSeq ia ib) (fun c _ _ ia ib => cdCond c ia ib)
    (fun id _ ic => cdBlock id ic) (fun _ ic => cdLoop ic) (fun g ps a b _ _ => cdRange g ps a b) (fun id _ _ _ s => some (.exit id, s)) (fun _ _ => cdNo) (fun _ => cdNo) (fun _ => cdNo)
    (fun _ _ _ s => some (.ret, s)) (fun _ => cdNo) c

def evCode (E : Env) (call : CallF) (fuel : Nat) (c : Code) (s : St) : Option (Ex × St) := evCodeF c E call fuel s

def setPs : List Nat → List AV → Tr AV → Tr AV
  | p :: ps, a :: r, t => setPs ps r (t.put p (some a))
  | _, _, t => t

def initTm : List AV → Nat → Tr AV → Tr AV
  | [], _, t => t
  | a :: r, i, t => initTm r (i + 1) (t.put i (some a))

def evResult (E : Env) (s : St) : ResultVar → Option AV
  | .tmp t => some ((s.tm.get t).getD .undef)
  | .cell a t => match evLoad E t ((s.tm.get a).getD .undef) s.mem with
    | some (v, _) => some v
    | none => none

def evResults (E : Env) (s : St) : List ResultVar → Option (List AV)
  | [] => some []
  | r :: rs => match evResult E s r with
    | some a => match evResults E s rs with
      | some b => some (a :: b)
      | none => none
    | none => none

def evLeave (E : Env) (fn : Func) (s : St) : R :=
  match evResults E s fn.results.toList with
  | some [r] => some (r, s.mem)
  | some l => some (.tup l, s.mem)
  | none => none

def endRound (l : Nat) : Option (Ex × St) → R
  | some (ex, s) => match s.mem.get l with
    | some (.loop _ _ tm ps asg bd) => match ex with
      | .normal => some (.bool true, s.mem.put l (.loop .ready none tm ps asg bd))
      | ex => some (.bool false, s.mem.put l (.loop .done (some ex) tm ps asg bd))
    | _ => none
  | none => none

def evRound (E : Env) (call : CallF) (fuel : Nat) (l : Nat) (args : List AV) (m : AMem) : R :=
  match m.get l with
  | some (.loop _ _ tm ps asg bd) =>
    if Nat.beq args.length ps.length then
      match evCode E call fuel asg ⟨setPs ps args tm, m⟩ with
      | some (.normal, s) => match s.mem.get l with
        | some (.loop .ready pend tm' ps' asg' bd') => endRound l (evCode E call fuel bd ⟨s.tm, s.mem.put l (.loop .busy pend tm' ps' asg' bd')⟩)
        | _ => none
      | _ => none
    else none
  | _ => none

/-! ### What is asked of the code once, by its text alone -/
def okDst (nt : Nat) (o : Oper) : Bool := match o.dst with
  | some d => Nat.blt d nt
  | none => true

/-- the temporaries that an operation names, its guard's among them -/
def namesOf (ops : Array Oper) (o : Oper) : List Nat :=
  o.dst.toList ++ (o.op.operands.toList.filterMap fun x => match x with | .tmp t => some t | _ => none) ++
  (match o.guard with
   | some (j, _) => match ops[j]? with
     | some oj => oj.dst.toList
     | none => []
   | none => [])

/-- who names a temporary that is written stands in an order with the writer -/
def okNames (ops : Array Oper) (b : Array Nat) (i j : Nat) : Bool :=
  match ops[i]?, ops[j]? with
  | some o, some p => match o.dst with
    | some d => !((namesOf ops p).any (Nat.beq d)) || Nat.beq i j || isBefore b i j || isBefore b j i
    | none => true
  | _, _ => true

/-- every operation's edges lead back; its guard is an edge; who names a temporary that is written stands in an order with the writer -/
def okDraw (ops : Array Oper) : Bool :=
  let b := Region.before ops
  (ops.toList.zipIdx.all fun (o, i) => o.after.all fun e => !Region.binds .any e || Nat.blt e.on i) &&
  (List.range ops.size).all fun i => (List.range ops.size).all fun j => okNames ops b i j

def okCode (nt : Nat) : Code → Bool
  | .skip | .exit _ | .ret => true
  | .seq a b | .cond _ a b => okCode nt a && okCode nt b
  | .region _ ops draw => ops.toList.all (okDst nt) && (!draw || okDraw ops)
  | .block _ c | .loop c => okCode nt c
  | .rangeFunc _ ps a b => ps.toList.all (Nat.blt · nt) && okCode nt a && okCode nt b
  | _ => false

/-- of a function's text -/
def okFunc (fn : Func) : Bool := match fn.body with
  | some c => okCode fn.ntmps c
  | none => true

def evCall (E : Env) : Nat → CallF
  | 0, _, _, _ => none
  | n + 1, .yield l, args, m => evRound E (evCall E n) n l args m
  | n + 1, .fn f, args, m => match E.orc f with
    | some o => o args m
    | none => match E.fn f with
      | none => none
      | some fn => match fn.body with
        | none => none
        | some body => match Nat.ble args.length fn.ntmps with
          | true => match evCode E (evCall E n) n body ⟨initTm args 0 .nil, m⟩ with
            | some (.exit _, _) => none
            | some (_, s) => evLeave E fn s
            | none => none
          | false => none

end
end Ev
