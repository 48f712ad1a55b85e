/- SpanMembers: its walk, a part of it. Printed by a small program. -/
import Derived.Test.YtifeapnhemolgaaTj
import Derived.Test.YtifeapnhemolgaaTk
import Derived.Test.YtifeapnhemolgaaTl
import Derived.Test.YtifeapnhemolgaaTm
import Derived.Test.YtifeapnhemolgaaTn
import Derived.Test.YtifeapnhemolgaaTo
namespace Go.Proofs.Ytifeapnhemolgaa.Wk
open Go Go.RowKit Go.Proofs.Ytifeapnhemolgaa.HL Go.Proofs.Ytifeapnhemolgaa.Pl

theorem members_walk (W : World) (va vb : Value) (la lb : List Sp) (ha : SlIn (Hall W) 2 va la.length (spc la)) (hb : SlIn (Hall W) 2 vb lb.length (spc lb)) (hla : la.length ≤ maxLen) (hlb : lb.length ≤ maxLen) (x y r : Int) :
    Calls Try.prog 6 #[va, vb, .int .i64 x, .int .i64 y, .int .i64 r] W fun e w' => e = .returned (.bool true) ∧ Below W.heap.size W w' := by
  by_cases c1 : -1099511627776 ≤ x
  · by_cases c2 : x < 1099511627776
    · cases hp : inB (setOf la) x <;> cases hq : inB (setOf lb) x
      · exact members_ff W va vb la lb ha hb hla hlb x y r c1 c2 hp hq
      · exact members_ft W va vb la lb ha hb hla hlb x y r c1 c2 hp hq
      · exact members_tf W va vb la lb ha hb hla hlb x y r c1 c2 hp hq
      · exact members_tt W va vb la lb ha hb hla hlb x y r c1 c2 hp hq
    · exact members_high W va vb la lb ha hb hla hlb x y r c1 c2
  · exact members_low W va vb la lb ha hb hla hlb x y r c1

end Go.Proofs.Ytifeapnhemolgaa.Wk
