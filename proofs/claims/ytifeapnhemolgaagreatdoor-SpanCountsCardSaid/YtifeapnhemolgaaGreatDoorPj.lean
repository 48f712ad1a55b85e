/- The laws of a Boolean algebra, over the sets that a rule chooses. -/
import Derived.Test.YtifeapnhemolgaaGreatDoorPh
namespace Go.Proofs.YtifeapnhemolgaaGreatDoor.Pl

theorem chose_small {f : Bool → Bool → Bool} {a b : List Sp} (ha : isSet a = true) (hb : isSet b = true) (h : a.length + b.length + 1 ≤ 128) : isSet (chosen f a b) = true :=
  chosen_set f ha hb (Nat.le_trans (chosen_count f ha hb) h)

theorem in_set {a : List Sp} (ha : isSet a = true) (x : Int) : inB a x = (inW x && inB a x) := by
  cases h : inB a x with
  | false => rw [Bool.and_false]
  | true => rw [set_inW ha h]; rfl

theorem set_same {a b : List Sp} (ha : isSet a = true) (hb : isSet b = true) (h : ∀ x, inB a x = inB b x) : a = b := set_ext (set_sep ha).1 (set_sep hb).1 h

theorem or_comm' {a b : List Sp} (ha : isSet a = true) (hb : isSet b = true) : chosen (keepB 0) a b = chosen (keepB 0) b a := by
  obtain ⟨s1, e1⟩ := chosen_spec (keepB 0) ha hb
  obtain ⟨s2, e2⟩ := chosen_spec (keepB 0) hb ha
  refine s1.unique s2 fun x => ?_
  rw [e1, e2]
  cases inB a x <;> cases inB b x <;> rfl

theorem and_comm' {a b : List Sp} (ha : isSet a = true) (hb : isSet b = true) : chosen (keepB 1) a b = chosen (keepB 1) b a := by
  obtain ⟨s1, e1⟩ := chosen_spec (keepB 1) ha hb
  obtain ⟨s2, e2⟩ := chosen_spec (keepB 1) hb ha
  refine s1.unique s2 fun x => ?_
  rw [e1, e2]
  cases inB a x <;> cases inB b x <;> rfl

theorem dist' {a b c : List Sp} (ha : isSet a = true) (hb : isSet b = true) (hc : isSet c = true) (h1 : isSet (chosen (keepB 1) b c) = true) (h2 : isSet (chosen (keepB 0) a b) = true) (h3 : isSet (chosen (keepB 0) a c) = true) : chosen (keepB 0) a (chosen (keepB 1) b c) = chosen (keepB 1) (chosen (keepB 0) a b) (chosen (keepB 0) a c) := by
  obtain ⟨s1, e1⟩ := chosen_spec (keepB 0) ha h1
  obtain ⟨s2, e2⟩ := chosen_spec (keepB 1) h2 h3
  refine s1.unique s2 fun x => ?_
  rw [e1, e2, (chosen_spec (keepB 1) hb hc).2, (chosen_spec (keepB 0) ha hb).2, (chosen_spec (keepB 0) ha hc).2]
  cases inW x <;> cases inB a x <;> cases inB b x <;> cases inB c x <;> rfl

theorem assoc' {a b c : List Sp} (ha : isSet a = true) (hb : isSet b = true) (hc : isSet c = true) (h1 : isSet (chosen (keepB 0) a b) = true) (h2 : isSet (chosen (keepB 0) b c) = true) : chosen (keepB 0) (chosen (keepB 0) a b) c = chosen (keepB 0) a (chosen (keepB 0) b c) := by
  obtain ⟨s1, e1⟩ := chosen_spec (keepB 0) h1 hc
  obtain ⟨s2, e2⟩ := chosen_spec (keepB 0) ha h2
  refine s1.unique s2 fun x => ?_
  rw [e1, e2, (chosen_spec (keepB 0) ha hb).2, (chosen_spec (keepB 0) hb hc).2]
  cases inW x <;> cases inB a x <;> cases inB b x <;> cases inB c x <;> rfl

theorem back' {a : List Sp} {n : Bool → Bool → Bool} (hn : ∀ p q, n p q = !p) (ha : isSet a = true) (h1 : isSet (chosen n a []) = true) : chosen n (chosen n a []) [] = a := by
  obtain ⟨s1, e1⟩ := chosen_spec n h1 (b := []) rfl
  refine s1.unique (set_sep ha).1 fun x => ?_
  rw [e1, (chosen_spec n ha (b := []) rfl).2, hn, hn, in_set ha x]
  cases inW x <;> cases inB a x <;> rfl

theorem morgan' {a b : List Sp} {n : Bool → Bool → Bool} (hn : ∀ p q, n p q = !p) (ha : isSet a = true) (hb : isSet b = true) (h1 : isSet (chosen (keepB 0) a b) = true) (h2 : isSet (chosen n a []) = true) (h3 : isSet (chosen n b []) = true) : chosen n (chosen (keepB 0) a b) [] = chosen (keepB 1) (chosen n a []) (chosen n b []) := by
  obtain ⟨s1, e1⟩ := chosen_spec n h1 (b := []) rfl
  obtain ⟨s2, e2⟩ := chosen_spec (keepB 1) h2 h3
  refine s1.unique s2 fun x => ?_
  rw [e1, e2, (chosen_spec (keepB 0) ha hb).2, (chosen_spec n ha (b := []) rfl).2, (chosen_spec n hb (b := []) rfl).2, hn, hn, hn]
  cases inW x <;> cases inB a x <;> cases inB b x <;> rfl

theorem none' {a : List Sp} {n : Bool → Bool → Bool} (hn : ∀ p q, n p q = !p) (ha : isSet a = true) (h1 : isSet (chosen n a []) = true) : chosen (keepB 1) a (chosen n a []) = [] := by
  obtain ⟨s1, e1⟩ := chosen_spec (keepB 1) ha h1
  refine s1.unique sep_nil fun x => ?_
  rw [e1, (chosen_spec n ha (b := []) rfl).2, hn, inB_nil]
  cases inW x <;> cases inB a x <;> rfl

theorem all' {a : List Sp} {n : Bool → Bool → Bool} (hn : ∀ p q, n p q = !p) (ha : isSet a = true) (h1 : isSet (chosen n a []) = true) : chosen (keepB 0) a (chosen n a []) = [⟨-1099511627776, 1099511627776⟩] := by
  obtain ⟨s1, e1⟩ := chosen_spec (keepB 0) ha h1
  refine s1.unique (set_sep (show isSet [⟨-1099511627776, 1099511627776⟩] = true by decide)).1 fun x => ?_
  rw [e1, (chosen_spec n ha (b := []) rfl).2, hn, inB_one]
  have hw : decide (-1099511627776 ≤ x ∧ x < 1099511627776) = inW x := rfl
  simp only [hw]
  cases inW x <;> cases inB a x <;> rfl

theorem self' {a : List Sp} (ha : isSet a = true) : chosen (keepB 0) a a = a := by
  obtain ⟨s1, e1⟩ := chosen_spec (keepB 0) ha ha
  refine s1.unique (set_sep ha).1 fun x => ?_
  rw [e1, in_set ha x]
  cases inW x <;> cases inB a x <;> rfl

theorem whole' {a b : List Sp} (ha : isSet a = true) (hb : isSet b = true) (h1 : isSet (chosen (keepB 2) a b) = true) (h2 : isSet (chosen (keepB 1) a b) = true) : chosen (keepB 0) (chosen (keepB 2) a b) (chosen (keepB 1) a b) = a := by
  obtain ⟨s1, e1⟩ := chosen_spec (keepB 0) h1 h2
  refine s1.unique (set_sep ha).1 fun x => ?_
  rw [e1, (chosen_spec (keepB 2) ha hb).2, (chosen_spec (keepB 1) ha hb).2, in_set ha x]
  cases inW x <;> cases inB a x <;> cases inB b x <;> rfl

end Go.Proofs.YtifeapnhemolgaaGreatDoor.Pl
