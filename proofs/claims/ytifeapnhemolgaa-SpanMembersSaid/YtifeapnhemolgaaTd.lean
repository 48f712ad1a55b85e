/- SpanMembers: what its walk leans on. -/
import Derived.Test.YtifeapnhemolgaaTc
namespace Go.Proofs.Ytifeapnhemolgaa.Wk
open Go Go.RowKit Go.Proofs.Ytifeapnhemolgaa.HL Go.Proofs.Ytifeapnhemolgaa.Pl

/-- A set that a rule chose, where it is not too large. -/
theorem chose_ok {f : Bool → Bool → Bool} {a b : List Sp} (ha : isSet a = true) (hb : isSet b = true) (h : chosenErr f a b = 0) : chosenOut f a b = chosen f a b ∧ isSet (chosen f a b) = true := by
  unfold chosenErr at h
  unfold chosenOut
  rw [ha, hb] at h ⊢
  simp only [Bool.and_self, if_true] at h ⊢
  by_cases hl : 128 < (chosen f a b).length
  · rw [if_pos hl] at h; cases h
  · rw [if_neg hl]
    exact ⟨rfl, chosen_set f ha hb (by omega)⟩

/-- Small sets: nothing is too large. -/
theorem chose_small {f : Bool → Bool → Bool} {a b : List Sp} (ha : isSet a = true) (hb : isSet b = true) (h : a.length + b.length + 1 ≤ 128) : chosenOut f a b = chosen f a b ∧ chosenErr f a b = 0 ∧ isSet (chosen f a b) = true := by
  have hl := chosen_count f ha hb
  unfold chosenErr chosenOut
  rw [ha, hb]
  simp only [Bool.and_self, if_true]
  rw [if_neg (by omega), if_neg (by omega)]
  exact ⟨rfl, rfl, chosen_set f ha hb (by omega)⟩

theorem chose_in {f : Bool → Bool → Bool} {a b : List Sp} (ha : isSet a = true) (hb : isSet b = true) (h : a.length + b.length + 1 ≤ 128) (x : Int) :
    (isSet (chosen f a b) && inB (chosen f a b) x) = (inW x && f (inB a x) (inB b x)) := by
  rw [(chose_small ha hb h).2.2, Bool.true_and]
  exact (chosen_spec f ha hb).2 x

end Go.Proofs.Ytifeapnhemolgaa.Wk
