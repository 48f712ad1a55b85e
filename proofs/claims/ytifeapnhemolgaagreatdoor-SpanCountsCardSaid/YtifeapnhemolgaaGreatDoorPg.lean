/- How many numbers of a set are below one; the greedy choice of a cover. -/
import Derived.Test.YtifeapnhemolgaaGreatDoorPf
namespace Go.Proofs.YtifeapnhemolgaaGreatDoor.Pl

def rankS (x : Int) (s : Sp) : Int := if s.lo < x then min x s.hi - s.lo else 0
def rankP (x : Int) (l : List Sp) : Int := (l.map (rankS x)).sum

theorem rankP_snoc (x : Int) (l : List Sp) (k : Nat) (h : k < l.length) : rankP x (l.take (k + 1)) = rankP x (l.take k) + rankS x l[k] := by
  unfold rankP
  rw [List.take_succ_eq_append_getElem h, List.map_append, List.sum_append]
  simp

theorem rankS_le {s : Sp} (h : s.ok = true) (x : Int) : 0 ≤ rankS x s ∧ rankS x s ≤ 2199023255552 := by
  have := ok_bounds h
  unfold rankS
  split <;> omega

theorem rankP_le {l : List Sp} (h : ∀ s, s ∈ l → s.ok = true) (x : Int) : 0 ≤ rankP x l ∧ rankP x l ≤ 2199023255552 * l.length := by
  induction l with
  | nil => simp [rankP]
  | cons s l ih =>
    have h1 := rankS_le (h s List.mem_cons_self) x
    have h2 := ih fun t ht => h t (List.mem_cons_of_mem _ ht)
    have e : rankP x (s :: l) = rankS x s + rankP x l := by simp [rankP]
    rw [e, List.length_cons]
    omega

/-- The better one of the best so far and the next span. -/
def bestStep (l : List Sp) (x : Int) (best : Int) (i : Nat) : Int := match l[i]? with
  | none => best
  | some s => if s.lo ≤ x ∧ x < s.hi ∧ (best < 0 ∨ (match l[best.toNat]? with | none => 0 | some b => b.hi) < s.hi) then i else best

def bestTo (l : List Sp) (x : Int) : Nat → Int
  | 0 => -1
  | k + 1 => bestStep l x (bestTo l x k) k

theorem ite_or {α : Type} (c : Prop) [Decidable c] (a b : α) : (if c then a else b) = a ∨ (if c then a else b) = b := by
  by_cases h : c
  · exact .inl (if_pos h)
  · exact .inr (if_neg h)

theorem bestTo_form (l : List Sp) (x : Int) : ∀ k, bestTo l x k = -1 ∨ ∃ b : Nat, b < k ∧ bestTo l x k = b
  | 0 => .inl rfl
  | k + 1 => by
    have ih := bestTo_form l x k
    have keep : bestTo l x (k + 1) = bestTo l x k → bestTo l x (k + 1) = -1 ∨ ∃ b : Nat, b < k + 1 ∧ bestTo l x (k + 1) = b := fun e => by
      rcases ih with h | ⟨b, hb, h⟩
      · exact .inl (e.trans h)
      · exact .inr ⟨b, by omega, e.trans h⟩
    cases hk : l[k]? with
    | none => exact keep (by show bestStep l x (bestTo l x k) k = _; unfold bestStep; rw [hk])
    | some s =>
      have e : bestTo l x (k + 1) = if s.lo ≤ x ∧ x < s.hi ∧ (bestTo l x k < 0 ∨ (match l[(bestTo l x k).toNat]? with | none => 0 | some b => b.hi) < s.hi) then (k : Int) else bestTo l x k := by
        show bestStep l x (bestTo l x k) k = _
        unfold bestStep
        rw [hk]
      rw [e] at keep ⊢
      rcases ite_or (s.lo ≤ x ∧ x < s.hi ∧ (bestTo l x k < 0 ∨ (match l[(bestTo l x k).toNat]? with | none => 0 | some b => b.hi) < s.hi)) (k : Int) (bestTo l x k) with h | h
      · exact .inr ⟨k, by omega, h⟩
      · exact keep h

end Go.Proofs.YtifeapnhemolgaaGreatDoor.Pl
