/- Plain data of the program (ops, functions, frames, fibers, states, nodes) and what the document says of ops. No program in sight; no condition. -/
import Derived.WalkKit
namespace Go.Proofs.Ytpomcbginkhlbaa

structure GOp where
  kind : Int
  a : Int
  deriving DecidableEq, Inhabited

structure GFunc where
  args : Int
  locals : Int
  code : List GOp
  deriving DecidableEq, Inhabited

structure GFrame where
  func : Int
  at_ : Int
  locals : List Int
  stack : List Int
  deriving DecidableEq, Inhabited

structure GFiber where
  frames : List GFrame
  caller : Int
  deriving DecidableEq, Inhabited

structure GState where
  fibers : List GFiber
  now : Int
  out : List Int
  deriving DecidableEq, Inhabited

structure GNode where
  kind : Int
  n : Int
  deriving DecidableEq, Inhabited

/-- What an op of a right kind takes. -/
def takesOf (p : List GFunc) (x : GOp) : Int :=
  if x.kind = 4 ∨ x.kind = 5 ∨ x.kind = 6 ∨ x.kind = 7 ∨ x.kind = 8 ∨ x.kind = 14 then 2
  else if x.kind = 1 ∨ x.kind = 3 ∨ x.kind = 10 ∨ x.kind = 12 ∨ x.kind = 15 ∨ x.kind = 16 then 1
  else if x.kind = 11 then (p.getD x.a.toNat default).args
  else 0

/-- What an op of a right kind leaves. -/
def leavesOf (x : GOp) : Int :=
  if x.kind = 1 ∨ x.kind = 3 ∨ x.kind = 9 ∨ x.kind = 10 ∨ x.kind = 12 ∨ x.kind = 16 then 0 else 1

def knownB (k : Int) : Bool := decide (0 ≤ k) && decide (k ≤ 16)

/-- Effect's error. -/
def effErr (p : List GFunc) (x : GOp) : Int :=
  if ¬ (0 ≤ x.kind ∧ x.kind ≤ 16) then 4
  else if x.kind = 11 ∧ ¬ (0 ≤ x.a ∧ x.a < p.length) then 5 else 0

def effTakes (p : List GFunc) (x : GOp) : Int := if effErr p x = 0 then takesOf p x else 0
def effLeaves (p : List GFunc) (x : GOp) : Int := if effErr p x = 0 then leavesOf x else 0

/-- May a function have so many Args and Locals? -/
def sizedB (f : GFunc) : Bool := decide (0 ≤ f.args ∧ f.args ≤ f.locals ∧ f.locals ≤ 4)

/-- Which A an op may have at most. -/
def mostOf (p : List GFunc) (f : GFunc) (k : Int) : Int :=
  if k = 0 then 999
  else if k = 2 ∨ k = 3 then f.locals - 1
  else if k = 9 ∨ k = 10 then (f.code.length : Int) - 1
  else if k = 11 ∨ k = 13 then (p.length : Int) - 1
  else 0

/-- The error of one op of a function. -/
def opErr (p : List GFunc) (f : GFunc) (x : GOp) : Int :=
  if ¬ (0 ≤ x.kind ∧ x.kind ≤ 16) then 4
  else if ¬ (0 ≤ x.a ∧ x.a ≤ mostOf p f x.kind) then 3
  else if (x.kind = 11 ∨ x.kind = 13) ∧ sizedB (p.getD x.a.toNat default) = false then 3
  else if x.kind = 13 ∧ (p.getD x.a.toNat default).args ≠ 1 then 1
  else 0

/-- The first error, op by op. -/
def opsErr (p : List GFunc) (f : GFunc) : List GOp → Int
  | [] => 0
  | x :: l => if opErr p f x ≠ 0 then opErr p f x else opsErr p f l

/-- The error of a function. -/
def funcErr (p : List GFunc) (f : Int) : Int :=
  if ¬ (0 ≤ f ∧ f < p.length) then 5
  else if 24 < (p.getD f.toNat default).code.length then 2
  else if sizedB (p.getD f.toNat default) = false then 3
  else opsErr p (p.getD f.toNat default) (p.getD f.toNat default).code

end Go.Proofs.Ytpomcbginkhlbaa
