/- The specification's sets: the ends put in order, and the pieces between them that are kept. -/
import Derived.Test.YtifeapnhemolgaaGreatDoorPa
namespace Go.Proofs.YtifeapnhemolgaaGreatDoor.Pl

/-- One step of put: what has come, and whether x is in it. -/
def putStep (x : Int) (s : List Int × Bool) (y : Int) : List Int × Bool :=
  let t := if !s.2 && decide (x ≤ y) then (s.1 ++ [x], true) else s
  if y = x then t else (t.1 ++ [y], t.2)

def putL (l : List Int) (x : Int) : List Int :=
  let t := l.foldl (putStep x) ([], false)
  if t.2 then t.1 else t.1 ++ [x]

def endsOf (e : List Int) (l : List Sp) : List Int := l.foldl (fun e s => putL (putL e s.lo) s.hi) e

/-- Is a number that is in a, in b, in the set that is made? (0: either, 1: both, 2: without) -/
def keepB (kind : Nat) (a b : Bool) : Bool := match kind with | 0 => a || b | 1 => a && b | _ => a && !b

/-- Is a number in one of some spans? -/
def inB (l : List Sp) (x : Int) : Bool := l.any fun s => decide (s.lo ≤ x ∧ x < s.hi)

/-- The piece from x to y is taken up. -/
def madeStep (out : List Sp) (x y : Int) : List Sp := match out.getLast? with
  | none => [⟨x, y⟩]
  | some p => if p.hi = x then out.set (out.length - 1) ⟨p.lo, y⟩ else out ++ [⟨x, y⟩]

/-- The pieces of ascending numbers that a rule keeps. -/
def piecesL (keep : Int → Bool) : List Int → List Sp → List Sp
  | x :: y :: l, out => piecesL keep (y :: l) (if keep x then madeStep out x y else out)
  | _, out => out

def madeL (kind : Nat) (a b : List Sp) : List Sp := piecesL (fun x => keepB kind (inB a x) (inB b x)) (endsOf (endsOf [] a) b) []

theorem putStep_length (x : Int) (s : List Int × Bool) (y : Int) : (putStep x s y).1.length ≤ s.1.length + (if (putStep x s y).2 = s.2 then 1 else 2) := by
  unfold putStep
  obtain ⟨o, d⟩ := s
  cases d <;> by_cases h1 : x ≤ y <;> by_cases h2 : y = x <;> simp [h1, h2]

end Go.Proofs.YtifeapnhemolgaaGreatDoor.Pl
