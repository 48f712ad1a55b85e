/- The pieces between two ends, and whether each is in the one and in the other of two sets. -/
import Derived.Test.YtifeapnhemolgaaGreatDoorPe
namespace Go.Proofs.YtifeapnhemolgaaGreatDoor.Pl

/-- The pieces, as they come. -/
def pairsL (a b : List Sp) : List Int → List (Sp × Bool × Bool)
  | u :: v :: l => (⟨u, v⟩, inB a u, inB b u) :: pairsL a b (v :: l)
  | _ => []

/-- Those that a rule chooses. -/
def sel (f : Bool → Bool → Bool) (l : List (Sp × Bool × Bool)) : List Sp := (l.filter fun x => f x.2.1 x.2.2).map (·.1)

theorem sel_pairs (f : Bool → Bool → Bool) (a b : List Sp) : ∀ (e : List Int), sel f (pairsL a b e) = spansL (fun u => f (inB a u) (inB b u)) e
  | [] => rfl
  | [_] => rfl
  | u :: v :: l => by
    have ih := sel_pairs f a b (v :: l)
    unfold sel at ih ⊢
    unfold pairsL spansL
    by_cases h : f (inB a u) (inB b u) = true
    · simp [h, ih]
    · simp [h, ih]

theorem sel_snoc (f : Bool → Bool → Bool) (pre : List (Sp × Bool × Bool)) (x : Sp × Bool × Bool) : sel f (pre ++ [x]) = sel f pre ++ if f x.2.1 x.2.2 then [x.1] else [] := by
  unfold sel
  rw [List.filter_append, List.map_append]
  by_cases h : f x.2.1 x.2.2 = true <;> simp [h]

theorem sel_length (f : Bool → Bool → Bool) (pre : List (Sp × Bool × Bool)) : (sel f pre).length ≤ pre.length := by
  unfold sel
  rw [List.length_map]
  exact List.length_filter_le _ _

theorem pairs_length (a b : List Sp) : ∀ (e : List Int), (pairsL a b e).length = e.length - 1
  | [] => rfl
  | [_] => rfl
  | u :: v :: l => by
    have := pairs_length a b (v :: l)
    simp [pairsL] at this ⊢
    exact this

theorem pairs_at (a b : List Sp) : ∀ (e : List Int) (k : Nat) (u v : Int), e[k]? = some u → e[k + 1]? = some v → (pairsL a b e)[k]? = some (⟨u, v⟩, inB a u, inB b u)
  | [], k, u, v, h, _ => by simp at h
  | [_], k, u, v, _, h => by simp at h
  | x :: y :: l, 0, u, v, h1, h2 => by simp at h1 h2; subst h1; subst h2; simp [pairsL]
  | x :: y :: l, k + 1, u, v, h1, h2 => by
    have := pairs_at a b (y :: l) k u v (by simpa using h1) (by simpa using h2)
    simpa [pairsL] using this

/-- The first i spans lie behind x. -/
def passed (l : List Sp) (i : Nat) (x : Int) : Prop := ∀ j s, j < i → l[j]? = some s → s.hi ≤ x

theorem passed_zero (l : List Sp) (x : Int) : passed l 0 x := fun j s h => by omega
theorem passed_mono {l : List Sp} {i : Nat} {x y : Int} (h : passed l i x) (hxy : x ≤ y) : passed l i y := fun j s hj hs => by have := h j s hj hs; omega
theorem passed_succ {l : List Sp} {i : Nat} {x : Int} {s : Sp} (h : passed l i x) (hs : l[i]? = some s) (hx : s.hi ≤ x) : passed l (i + 1) x := fun j t hj ht => by
  by_cases e : j = i
  · subst e; rw [hs] at ht; cases ht; exact hx
  · exact h j t (by omega) ht

/-- Where the first i spans lie behind x and the next one does not, only the next one can hold x. -/
theorem inB_passed {l : List Sp} {i : Nat} {x : Int} (hs : sep l) (h : passed l i x) :
    inB l x = match l[i]? with | none => false | some s => if s.hi ≤ x then inB l x else decide (s.lo ≤ x) := by
  cases hi : l[i]? with
  | none =>
    simp only
    cases hx : inB l x with
    | false => rfl
    | true =>
      obtain ⟨t, ht, h1, h2⟩ := inB_iff.1 hx
      obtain ⟨j, hj, rfl⟩ := List.getElem_of_mem ht
      have h3 := List.getElem?_eq_none_iff.1 hi
      have := h j l[j] (by omega) (List.getElem?_eq_getElem hj)
      omega
  | some s =>
    simp only
    by_cases hle : s.hi ≤ x
    · rw [if_pos hle]
    · rw [if_neg hle]
      obtain ⟨hil, rfl⟩ := List.getElem?_eq_some_iff.1 hi
      rw [Bool.eq_iff_iff, decide_eq_true_eq, inB_iff]
      constructor
      · rintro ⟨t, ht, h1, h2⟩
        obtain ⟨j, hj, rfl⟩ := List.getElem_of_mem ht
        rcases Nat.lt_trichotomy j i with hlt | e | hlt
        · have := h j l[j] hlt (List.getElem?_eq_getElem hj)
          omega
        · subst e; exact h1
        · have h4 := List.pairwise_iff_getElem.1 hs.2 i j hil hj hlt
          omega
      · intro h1
        exact ⟨l[i], List.getElem_mem hil, h1, by omega⟩

theorem inB_end {l : List Sp} {i : Nat} {x : Int} (hs : sep l) (h : passed l i x) (hi : l.length ≤ i) : inB l x = false := by
  rw [inB_passed hs h, List.getElem?_eq_none hi]

theorem inB_at {l : List Sp} {i : Nat} {x : Int} {s : Sp} (hs : sep l) (h : passed l i x) (hi : l[i]? = some s) (hx : x < s.hi) : inB l x = decide (s.lo ≤ x) := by
  rw [inB_passed hs h, hi]
  simp only
  rw [if_neg (by omega)]

theorem asc_next {e : List Int} (h : asc e) {k : Nat} {u v : Int} (hu : e[k]? = some u) (hv : e[k + 1]? = some v) : u ≤ v := by
  obtain ⟨h1, rfl⟩ := List.getElem?_eq_some_iff.1 hu
  obtain ⟨h2, rfl⟩ := List.getElem?_eq_some_iff.1 hv
  have := List.pairwise_iff_getElem.1 h k (k + 1) h1 h2 (by omega)
  omega

end Go.Proofs.YtifeapnhemolgaaGreatDoor.Pl
