/- The specification's put. -/
import Derived.Test.YtifeapnhemolgaaGreatDoorWf
namespace Go.Proofs.YtifeapnhemolgaaGreatDoor.Wk
open Go Go.RowKit Go.Proofs.YtifeapnhemolgaaGreatDoor.HL Go.Proofs.YtifeapnhemolgaaGreatDoor.Pl

/-- The cells of numbers. -/
def inc (l : List Int) : List Value := l.map fun x => .int .i64 x

theorem inc_get {l : List Int} {i : Nat} (h : i < l.length) : (inc l)[i]? = some (.int .i64 l[i]) := by simp [inc, h]

theorem int_cell {S w : World} {H : Hp} {b off : Nat} {l : List Int} (hw : Has S w H) (hr : RowAt H b off (inc l)) {i : Nat} (h : i < l.length) : w.cell? ⟨b, off + i, none⟩ = some (.int .i64 l[i]) :=
  hr.cell hw (inc_get h)

theorem int_form {E : TypeId} {sz n : Nat} {v : Value} {xs : List Value} {Hs : Hp} (h : SlR E sz v n xs Hs) : ∃ ao cap, v = .slice ao n cap := by
  obtain ⟨_, ⟨rfl, rfl, _⟩ | ⟨b, off, cap, c, rfl, _⟩⟩ := h
  · exact ⟨_, _, rfl⟩
  · exact ⟨_, _, rfl⟩

theorem inc_one (l : List Int) (x : Int) : inc l ++ #[Value.int .i64 x].toList = inc (l ++ [x]) := by simp [inc]

/-- A new list of numbers is handed back. -/
def MadeI (S : World) (H : Hp) (out : List Int) (e : Ending) (w' : World) : Prop :=
  ∃ v Hs, e = .returned v ∧ SlR 3 1 v out.length (inc out) Hs ∧ Has S w' (Hs ++ H)




















































































end Go.Proofs.YtifeapnhemolgaaGreatDoor.Wk
