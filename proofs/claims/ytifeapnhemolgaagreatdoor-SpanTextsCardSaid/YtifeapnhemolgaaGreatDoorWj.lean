/- Tolerances: spans grown and shrunk. -/
import Derived.Test.YtifeapnhemolgaaGreatDoorWi
namespace Go.Proofs.YtifeapnhemolgaaGreatDoor.Wk
open Go Go.RowKit Go.Proofs.YtifeapnhemolgaaGreatDoor.HL Go.Proofs.YtifeapnhemolgaaGreatDoor.Pl

theorem spc_set2 (l : List Sp) (k : Nat) (h : k < l.length) (x y : Int) : ((spc l).set (k * 2) (.int .i64 x)).set (k * 2 + 1) (.int .i64 y) = spc (l.set k ⟨x, y⟩) := by
  induction l generalizing k with
  | nil => simp at h
  | cons t l ih =>
    have e1 : ∀ (a : Sp) (m : List Sp), spc (a :: m) = .int .i64 a.lo :: .int .i64 a.hi :: spc m := fun a m => by simp [spc]
    cases k with
    | zero => simp [spc]
    | succ k =>
      have e := ih k (by simpa using h)
      rw [List.set_cons_succ, e1, e1, ← e, show (k + 1) * 2 = k * 2 + 1 + 1 by omega]
      rfl

/-- The first k spans are grown. -/
def grownTo (r : Int) (l : List Sp) (k : Nat) : List Sp := (l.take k).map (growS r) ++ l.drop k

theorem grownTo_length (r : Int) (l : List Sp) (k : Nat) : (grownTo r l k).length = l.length := by simp [grownTo]; omega

theorem grownTo_get {r : Int} {l : List Sp} {k : Nat} (h : k < l.length) : (grownTo r l k)[k]? = some l[k] := by
  unfold grownTo
  rw [List.getElem?_append_right (by simp; omega)]
  simp only [List.length_map, List.length_take, List.getElem?_drop]
  rw [show k + (k - min k l.length) = k by omega]
  exact List.getElem?_eq_getElem h

theorem grownTo_succ {r : Int} {l : List Sp} {k : Nat} (h : k < l.length) : (grownTo r l k).set k (growS r l[k]) = grownTo r l (k + 1) := by
  unfold grownTo
  rw [List.set_append_right _ _ (by simp; omega)]
  have e : k - ((l.take k).map (growS r)).length = 0 := by simp; omega
  rw [e, List.drop_eq_getElem_cons h, List.set_cons_zero, List.take_succ_eq_append_getElem h, List.map_append]
  simp

/-- The call hands back a new list of spans and an error, and leaves the rest as it is. -/
def MadeE (S : World) (H : Hp) (out : List Sp) (err : Int) (e : Ending) (w' : World) : Prop :=
  ∃ v Hs, e = .returned (.tuple #[v, .int .i64 err]) ∧ SlR 41 2 v out.length (spc out) Hs ∧ Has S w' (Hs ++ H)

theorem MadeE.fail {S w : World} {H : Hp} {err : Int} (hw : Has S w H) : MadeE S H [] err (.returned (.tuple #[.slice none 0 0, .int .i64 err])) w := ⟨_, [], rfl, SlR.nil _ _, hw⟩

theorem has_ends {S W : World} {G : Hp} {a b : Addr} {s : Sp} {x y : Int} (h : Has S ((W.setCell a (.int .i64 s.lo)).setCell b (.int .i64 s.hi)) G) (hx : s.lo = x) (hy : s.hi = y) : Has S ((W.setCell a (.int .i64 x)).setCell b (.int .i64 y)) G := by
  subst hx
  subst hy
  exact h

theorem max_of (a b : Int) : (if a < b then b else a) = max a b := by split <;> omega
theorem min_of (a b : Int) : (if b < a then b else a) = min a b := by split <;> omega













































































end Go.Proofs.YtifeapnhemolgaaGreatDoor.Wk
