import Derived.Test.YtfbcfmgmcldogaaGreatEv0k
namespace Ev
open Go
noncomputable section

def tabF {α : Type} : List α → Nat → Tr α → Tr α
  | [], _, t => t
  | a :: r, i, t => tabF r (i + 1) (t.put i (some a))
def tab {α : Type} (l : List α) : Tr α := tabF l 0 .nil

/-- what a type is behind its name -/
def undT (types : Tr TypeInfo) (i : TypeInfo) : Option TypeDesc :=
  match i.desc with
  | .named _ u => match types.get u with
    | some j => some j.desc
    | none => none
  | d => some d

def zeroA (i : TypeInfo) : Option AV := match i.zero with
  | some v => ofVal v
  | none => none

def tyAt (P : Program) (types : Tr TypeInfo) (t : Nat) : Option TyI := match types.get t with
  | some i => match undT types i with
    | some u => some { u := u, size := i.size, bytes := i.bytes, zero := zeroA i, held := P.stoodInHeld t }
    | none => none
  | none => none

def isPtrD : TypeDesc → Bool
  | .pointer _ => true
  | _ => false

/-- the function of a method that is a type's own, whose receiver is the value as it stands -/
def methAt (types : Tr TypeInfo) (t : Nat) (name : String) : Option Nat := match types.get t with
  | some i => match undT types i with
    | some u => match i.methods.toList.find? (·.name == name) with
      | some m => if m.path.isEmpty then (match m.func with
        | some (f, p) => if p == isPtrD u then some f else none
        | none => none) else none
      | none => none
    | none => none
  | none => none

def envOf (P : Program) (types : Tr TypeInfo) (funcs : Tr Func) (orc : Nat → Option (List AV → AMem → R)) : Env :=
  { ty := tyAt P types, fn := funcs.get, orc := orc, meth := methAt types }
end
end Ev
