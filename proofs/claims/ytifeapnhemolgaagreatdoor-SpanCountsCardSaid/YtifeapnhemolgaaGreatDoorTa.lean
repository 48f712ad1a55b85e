/- SpanTwo: its walk. -/
import Derived.Test.YtifeapnhemolgaaGreatDoorWs
namespace Go.Proofs.YtifeapnhemolgaaGreatDoor.Wk
open Go Go.RowKit Go.Proofs.YtifeapnhemolgaaGreatDoor.HL Go.Proofs.YtifeapnhemolgaaGreatDoor.Pl

theorem chosen_two (kind : Nat) (_ : kind ≤ 2) (a b : List Sp) : chosenOut (keepB kind) a b = twoOut kind a b ∧ chosenErr (keepB kind) a b = twoErr kind a b := by
  unfold chosenOut twoOut chosenErr twoErr
  by_cases h : (isSet a && isSet b) = true
  · rw [Bool.and_eq_true] at h
    have e : chosen (keepB kind) a b = madeL kind a b := chosen_made (edgesL_ends a b) (set_sep h.1).2.2.1 (set_sep h.2).2.2.1
    rw [e]
    exact ⟨rfl, rfl⟩
  · rw [if_neg h, if_neg h, if_neg h, if_neg h]
    exact ⟨rfl, rfl⟩

theorem whole_set : isSet [⟨-1099511627776, 1099511627776⟩] = true := by decide

theorem chosen_rnot (a : List Sp) : chosenOut notB a [] = twoOut 2 [⟨-1099511627776, 1099511627776⟩] a ∧ chosenErr notB a [] = twoErr 2 [⟨-1099511627776, 1099511627776⟩] a := by
  unfold chosenOut twoOut chosenErr twoErr
  rw [whole_set, show isSet [] = true from rfl, Bool.and_true, Bool.true_and]
  by_cases h : isSet a = true
  · have e : chosen notB a [] = madeL 2 [⟨-1099511627776, 1099511627776⟩] a := chosen_not (edgesL_ends a []) (set_sep h).2.2.1
    rw [e]
    exact ⟨rfl, rfl⟩
  · rw [if_neg h, if_neg h, if_neg h, if_neg h]
    exact ⟨rfl, rfl⟩

theorem twoOut_length (kind : Nat) (a b : List Sp) : (twoOut kind a b).length ≤ 128 := by
  unfold twoOut
  split
  · split
    · simp
    · omega
  · simp

theorem alive_below (w : World) : Calls Tryz.prog 6 #[] w fun e w' => e = .returned (.bool true) ∧ Below w.heap.size w w' :=
  (alive_calls w w (Hall w) (Has.all w)).mono fun _ _ ⟨he, hw⟩ => ⟨he, Has.below_of_all (H := []) hw⟩








































































































































































































end Go.Proofs.YtifeapnhemolgaaGreatDoor.Wk
