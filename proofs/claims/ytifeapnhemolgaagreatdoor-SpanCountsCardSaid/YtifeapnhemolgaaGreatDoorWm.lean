/- The specification's Made. -/
import Derived.Test.YtifeapnhemolgaaGreatDoorWl
import Derived.Test.YtifeapnhemolgaaGreatDoorWg
namespace Go.Proofs.YtifeapnhemolgaaGreatDoor.Wk
open Go Go.RowKit Go.Proofs.YtifeapnhemolgaaGreatDoor.HL Go.Proofs.YtifeapnhemolgaaGreatDoor.Pl

theorem putStep_size (x : Int) (s : List Int × Bool) (y : Int) : (putStep x s y).1.length + s.2.toNat ≤ s.1.length + 1 + (putStep x s y).2.toNat := by
  unfold putStep
  obtain ⟨o, d⟩ := s
  cases d <;> by_cases h1 : x ≤ y <;> by_cases h2 : y = x <;> simp [h1, h2]

theorem putFold_size (x : Int) : ∀ (l : List Int) (s : List Int × Bool), (l.foldl (putStep x) s).1.length + s.2.toNat ≤ s.1.length + l.length + (l.foldl (putStep x) s).2.toNat
  | [], s => by simp
  | y :: l, s => by
    have h1 := putFold_size x l (putStep x s y)
    have h2 := putStep_size x s y
    simp only [List.foldl_cons, List.length_cons]
    omega

/-- put adds one number at most. -/
theorem putL_length (l : List Int) (x : Int) : (putL l x).length ≤ l.length + 1 := by
  have := putFold_size x l ([], false)
  unfold putL
  generalize l.foldl (putStep x) ([], false) = r at this
  obtain ⟨o, d⟩ := r
  cases d <;> simp at this ⊢ <;> omega

theorem endsOf_length (l : List Sp) : ∀ e, (endsOf e l).length ≤ e.length + 2 * l.length := by
  induction l with
  | nil => intro e; simp [endsOf]
  | cons s l ih =>
    intro e
    have h1 := ih (putL (putL e s.lo) s.hi)
    have h2 := putL_length (putL e s.lo) s.hi
    have h3 := putL_length e s.lo
    simp only [endsOf, List.foldl_cons, List.length_cons] at h1 ⊢
    omega

theorem endsOf_snoc (e : List Int) (l : List Sp) (k : Nat) (h : k < l.length) : endsOf e (l.take (k + 1)) = putL (putL (endsOf e (l.take k)) l[k].lo) l[k].hi := by
  unfold endsOf
  rw [List.take_succ_eq_append_getElem h, List.foldl_append]
  rfl

/-- From place i on. -/
theorem piecesL_drop (keep : Int → Bool) (l : List Int) (i : Nat) (h : i + 1 < l.length) (out : List Sp) :
    piecesL keep (l.drop i) out = piecesL keep (l.drop (i + 1)) (if keep (l[i]'(by omega)) then madeStep out (l[i]'(by omega)) l[i + 1] else out) := by
  have e1 : l.drop i = l[i]'(by omega) :: l.drop (i + 1) := List.drop_eq_getElem_cons (by omega)
  have e2 : l.drop (i + 1) = l[i + 1] :: l.drop (i + 1 + 1) := List.drop_eq_getElem_cons h
  rw [e1, e2]
  rfl

theorem piecesL_end (keep : Int → Bool) (l : List Int) (i : Nat) (h : l.length ≤ i + 1) (out : List Sp) : piecesL keep (l.drop i) out = out := by
  rcases Nat.lt_or_ge i l.length with h1 | h1
  · have e1 : l.drop i = [l[i]] := by
      rw [List.drop_eq_getElem_cons h1, List.drop_of_length_le (by omega)]
    rw [e1]
    rfl
  · rw [List.drop_of_length_le h1]
    rfl

theorem madeStep_length (out : List Sp) (x y : Int) : (madeStep out x y).length ≤ out.length + 1 := by
  unfold madeStep
  split
  · simp
  · split <;> simp

theorem madeStep_same {out : List Sp} {p : Sp} {x y : Int} (hp : out[out.length - 1]? = some p) (h : p.hi = x) : madeStep out x y = out.set (out.length - 1) ⟨p.lo, y⟩ := by
  unfold madeStep
  rw [List.getLast?_eq_getElem?, hp]
  simp [h]

theorem madeStep_new {out : List Sp} {p : Sp} {x y : Int} (hp : out[out.length - 1]? = some p) (h : ¬ p.hi = x) : madeStep out x y = out ++ [⟨x, y⟩] := by
  unfold madeStep
  rw [List.getLast?_eq_getElem?, hp]
  simp [h]

/-- A new list of spans is handed back. -/
def MadeS (S : World) (H : Hp) (out : List Sp) (e : Ending) (w' : World) : Prop :=
  ∃ v Hs, e = .returned v ∧ SlR 41 2 v out.length (spc out) Hs ∧ Has S w' (Hs ++ H)
















































































































































































































































































































end Go.Proofs.YtifeapnhemolgaaGreatDoor.Wk
