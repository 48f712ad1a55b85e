/-
  No cell of these rows narrows 'for every input' (looked for: loops, veiled, ifaces, maps, wideKeys, modest, calm, conditions, laid).
  DERIVED. THE GIVEN ROWS OF THIS SEAT. 4 by the template 'for every input the law returns true; each argument reads behind the call as it read before'; 0 by the template 'total and deterministic' (their statements: YtifeapnhemolgaaTotals.lean).
  GIVEN WITH THE SEED: the statements are not yours to turn. If you find one false, say at which input.
  Laid BY PROGRAM, IN A SANDBOX (cutbox-rows.mjs): the forced cells as the released guide's own fill.sh prints them over the translation a0cb5edb2dc577ca… (all of the seat's roots in one cut). By AI agents, Wed Nov 11 2026. No macro, syntax, notation, axiom, sorry.
-/
import Derived.Test.YtifeapnhemolgaaChecked
import GoSem.Claim
import GoSem.ClaimJoined
import GoSem.ClaimMapViews
import Derived.JoinedTies
import Derived.KernelRfl
namespace Go.Proofs.Ytifeapnhemolgaa
/- THE CELL 'sum', in the pinned program and in every row, IS THE sha256 OF THE DUMP (.gsa) THAT YtifeapnhemolgaaProg.lean LOADS. Nothing in Lean hashes anything: it is a label: what it is worth is what the hold of that sum in a sandbox is worth. -/
noncomputable def Try.pinned : Pinned := { name := "ytifeapnhemolgaa", sum := "a0cb5edb2dc577cabc24cd602a66409b0ec9177ec0a671af012e99b8b73b89a2", checked := Try.checked }
namespace Rows
def none {H : Type} : Left H := { results := [], args := [] }

/-- 'kimberlitelaw01.SpanTwo': WHATEVER THE INPUT: true; the input reads as it did. -/
def spanTwoSpec : ChangeSpec := { name := "spanTwo", fn := fun _ => fun
  | [d1, d2] => { results := [.lit (.bool true)], args := [d1, d2] }
  | _ => none }
def spanTwoRow : OpenClaim := { program := "ytifeapnhemolgaa", sum := "a0cb5edb2dc577cabc24cd602a66409b0ec9177ec0a671af012e99b8b73b89a2", func := "kimberlite/kimberlitelaw01.SpanTwo", spec := "spanTwo", unfollowed := true, recurses := true, apart := false }
def SpanTwoSaid : Prop := spanTwoRow.holds Try.pinned (OpenSpec.ofChange spanTwoSpec)

/-- ITS FALSE NEIGHBOUR: 'it returns false'. Refute it at one input. -/
def spanTwoWrong : ChangeSpec := { name := "spanTwo", fn := fun _ => fun
  | [d1, d2] => { results := [.lit (.bool false)], args := [d1, d2] }
  | _ => none }
def SpanTwoWrongFalsely : Prop := spanTwoRow.holds Try.pinned (OpenSpec.ofChange spanTwoWrong)

/-- 'kimberlitelaw01.SpanBoolean': WHATEVER THE INPUT: true; the input reads as it did. -/
def spanBooleanSpec : ChangeSpec := { name := "spanBoolean", fn := fun _ => fun
  | [d1, d2, d3] => { results := [.lit (.bool true)], args := [d1, d2, d3] }
  | _ => none }
def spanBooleanRow : OpenClaim := { program := "ytifeapnhemolgaa", sum := "a0cb5edb2dc577cabc24cd602a66409b0ec9177ec0a671af012e99b8b73b89a2", func := "kimberlite/kimberlitelaw01.SpanBoolean", spec := "spanBoolean", unfollowed := true, recurses := true, apart := false }
def SpanBooleanSaid : Prop := spanBooleanRow.holds Try.pinned (OpenSpec.ofChange spanBooleanSpec)

/-- ITS FALSE NEIGHBOUR: 'it returns false'. Refute it at one input. -/
def spanBooleanWrong : ChangeSpec := { name := "spanBoolean", fn := fun _ => fun
  | [d1, d2, d3] => { results := [.lit (.bool false)], args := [d1, d2, d3] }
  | _ => none }
def SpanBooleanWrongFalsely : Prop := spanBooleanRow.holds Try.pinned (OpenSpec.ofChange spanBooleanWrong)

/-- 'kimberlitelaw01.SpanAdjoint': WHATEVER THE INPUT: true; the input reads as it did. -/
def spanAdjointSpec : ChangeSpec := { name := "spanAdjoint", fn := fun _ => fun
  | [d1, d2, d3, d4] => { results := [.lit (.bool true)], args := [d1, d2, d3, d4] }
  | _ => none }
def spanAdjointRow : OpenClaim := { program := "ytifeapnhemolgaa", sum := "a0cb5edb2dc577cabc24cd602a66409b0ec9177ec0a671af012e99b8b73b89a2", func := "kimberlite/kimberlitelaw01.SpanAdjoint", spec := "spanAdjoint", unfollowed := true, recurses := true, apart := false }
def SpanAdjointSaid : Prop := spanAdjointRow.holds Try.pinned (OpenSpec.ofChange spanAdjointSpec)

/-- ITS FALSE NEIGHBOUR: 'it returns false'. Refute it at one input. -/
def spanAdjointWrong : ChangeSpec := { name := "spanAdjoint", fn := fun _ => fun
  | [d1, d2, d3, d4] => { results := [.lit (.bool false)], args := [d1, d2, d3, d4] }
  | _ => none }
def SpanAdjointWrongFalsely : Prop := spanAdjointRow.holds Try.pinned (OpenSpec.ofChange spanAdjointWrong)

/-- 'kimberlitelaw01.SpanMembers': WHATEVER THE INPUT: true; the input reads as it did. -/
def spanMembersSpec : ChangeSpec := { name := "spanMembers", fn := fun _ => fun
  | [d1, d2, d3, d4, d5] => { results := [.lit (.bool true)], args := [d1, d2, d3, d4, d5] }
  | _ => none }
def spanMembersRow : OpenClaim := { program := "ytifeapnhemolgaa", sum := "a0cb5edb2dc577cabc24cd602a66409b0ec9177ec0a671af012e99b8b73b89a2", func := "kimberlite/kimberlitelaw01.SpanMembers", spec := "spanMembers", unfollowed := true, recurses := true, apart := false }
def SpanMembersSaid : Prop := spanMembersRow.holds Try.pinned (OpenSpec.ofChange spanMembersSpec)

/-- ITS FALSE NEIGHBOUR: 'it returns false'. Refute it at one input. -/
def spanMembersWrong : ChangeSpec := { name := "spanMembers", fn := fun _ => fun
  | [d1, d2, d3, d4, d5] => { results := [.lit (.bool false)], args := [d1, d2, d3, d4, d5] }
  | _ => none }
def SpanMembersWrongFalsely : Prop := spanMembersRow.holds Try.pinned (OpenSpec.ofChange spanMembersWrong)

/- THE SECOND FORM. 'bulk': how many values and letters a reading holds, each counted each time it is reached (what is shared counts as often as it is met; a slice's spare places count too). A statement '..UptoSaid' is the law's where the arguments, and the package variables that the reading takes, are together of bulk at most 1048576: NARROWER than '..Said'. Prove '..Said' where nothing that the law and all that it calls make is longer than what came in: it says more and counts as full. Else prove '..UptoSaid'. A law counts once. -/
mutual
def uptoBulk {H : Type} : DataW H → Nat
  | .lit (.string bytes) => bytes.length + 1
  | .lit _ => 1
  | .nil => 1
  | .ptr d => uptoBulk d + 1
  | .slice elems spare => uptoBulkAll elems + uptoBulkAll spare + 1
  | .agg parts => uptoBulkAll parts + 1
  | .iface _ d => uptoBulk d + 1
  | .map entries => uptoBulkEntries entries + 1
  | .held _ => 1
def uptoBulkAll {H : Type} : List (DataW H) → Nat
  | [] => 0
  | d :: r => uptoBulk d + uptoBulkAll r
def uptoBulkEntries {H : Type} : List (Lit × DataW H) → Nat
  | [] => 0
  | x :: r => uptoBulkEntry x + uptoBulkEntries r
def uptoBulkEntry {H : Type} : Lit × DataW H → Nat
  | (.string bytes, d) => bytes.length + uptoBulk d + 1
  | (_, d) => uptoBulk d + 1
 end
def uptoSmall : (H : Type) → List (DataW H) → Bool := fun _ ds => decide (uptoBulkAll ds ≤ 1048576)
def OpenSpec.upto (s : _root_.Go.ChangeSpec) : _root_.Go.OpenSpec := { _root_.Go.OpenSpec.ofChange s with cond := some uptoSmall }

/-- 'kimberlitelaw01.SpanTwo', WHERE WHAT IT READS IS OF BULK AT MOST 1048576: true; the input reads as it did. -/
def spanTwoUptoRow : OpenClaim := { program := "ytifeapnhemolgaa", sum := "a0cb5edb2dc577cabc24cd602a66409b0ec9177ec0a671af012e99b8b73b89a2", func := "kimberlite/kimberlitelaw01.SpanTwo", spec := "spanTwo", unfollowed := true, recurses := true, apart := false, narrowed := true }
def SpanTwoUptoSaid : Prop := spanTwoUptoRow.holds Try.pinned (OpenSpec.upto spanTwoSpec)

/-- 'kimberlitelaw01.SpanBoolean', WHERE WHAT IT READS IS OF BULK AT MOST 1048576: true; the input reads as it did. -/
def spanBooleanUptoRow : OpenClaim := { program := "ytifeapnhemolgaa", sum := "a0cb5edb2dc577cabc24cd602a66409b0ec9177ec0a671af012e99b8b73b89a2", func := "kimberlite/kimberlitelaw01.SpanBoolean", spec := "spanBoolean", unfollowed := true, recurses := true, apart := false, narrowed := true }
def SpanBooleanUptoSaid : Prop := spanBooleanUptoRow.holds Try.pinned (OpenSpec.upto spanBooleanSpec)

/-- 'kimberlitelaw01.SpanAdjoint', WHERE WHAT IT READS IS OF BULK AT MOST 1048576: true; the input reads as it did. -/
def spanAdjointUptoRow : OpenClaim := { program := "ytifeapnhemolgaa", sum := "a0cb5edb2dc577cabc24cd602a66409b0ec9177ec0a671af012e99b8b73b89a2", func := "kimberlite/kimberlitelaw01.SpanAdjoint", spec := "spanAdjoint", unfollowed := true, recurses := true, apart := false, narrowed := true }
def SpanAdjointUptoSaid : Prop := spanAdjointUptoRow.holds Try.pinned (OpenSpec.upto spanAdjointSpec)

/-- 'kimberlitelaw01.SpanMembers', WHERE WHAT IT READS IS OF BULK AT MOST 1048576: true; the input reads as it did. -/
def spanMembersUptoRow : OpenClaim := { program := "ytifeapnhemolgaa", sum := "a0cb5edb2dc577cabc24cd602a66409b0ec9177ec0a671af012e99b8b73b89a2", func := "kimberlite/kimberlitelaw01.SpanMembers", spec := "spanMembers", unfollowed := true, recurses := true, apart := false, narrowed := true }
def SpanMembersUptoSaid : Prop := spanMembersUptoRow.holds Try.pinned (OpenSpec.upto spanMembersSpec)

end Rows
end Go.Proofs.Ytifeapnhemolgaa
