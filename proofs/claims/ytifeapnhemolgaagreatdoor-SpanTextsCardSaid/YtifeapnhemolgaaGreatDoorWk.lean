/- Spans shrunk. -/
import Derived.Test.YtifeapnhemolgaaGreatDoorWj
namespace Go.Proofs.YtifeapnhemolgaaGreatDoor.Wk
open Go Go.RowKit Go.Proofs.YtifeapnhemolgaaGreatDoor.HL Go.Proofs.YtifeapnhemolgaaGreatDoor.Pl

theorem shrinkS_length (r : Int) (s : Sp) : (shrinkS r s).length ≤ 1 := by
  unfold shrinkS
  dsimp only
  generalize (if s.hi < 1099511627776 then s.hi - r else s.hi) = y
  generalize (if -1099511627776 < s.lo then s.lo + r else s.lo) = x
  split <;> simp

theorem spc_cons (out : List Sp) (x y : Int) : spc out ++ #[Value.int .i64 x, Value.int .i64 y].toList = spc (out ++ [⟨x, y⟩]) := by simp [spc]















































































































end Go.Proofs.YtifeapnhemolgaaGreatDoor.Wk
