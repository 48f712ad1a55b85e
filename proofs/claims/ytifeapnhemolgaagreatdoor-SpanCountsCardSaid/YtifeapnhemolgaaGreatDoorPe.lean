/- What sorting and striking doubles makes of numbers: the numbers in order. -/
import Derived.Test.YtifeapnhemolgaaGreatDoorPd
import Derived.Lib.SlicesCompact
namespace Go.Proofs.YtifeapnhemolgaaGreatDoor.Pl
open Go

theorem compact_spec (d : Array Int) (hd : ∀ i j, i ≤ j → j < d.size → d[i]! ≤ d[j]!) : ∀ m, m ≤ d.size →
    asc (Lib.compactUpTo d m) ∧ (∀ y, y ∈ Lib.compactUpTo d m ↔ ∃ j, j < m ∧ y = d[j]!) ∧ ∀ y, y ∈ Lib.compactUpTo d m → 0 < m ∧ y ≤ d[m - 1]!
  | 0, _ => by simp [Lib.compactUpTo, asc]
  | m + 1, hm => by
    obtain ⟨h1, h2, h3⟩ := compact_spec d hd m (by omega)
    rw [Lib.compactUpTo_succ]
    by_cases hk : Lib.keeps d m = true
    · rw [if_pos hk]
      have hgt : ∀ y, y ∈ Lib.compactUpTo d m → y < d[m]! := fun y hy => by
        obtain ⟨h0, hle⟩ := h3 y hy
        have h4 := hd (m - 1) m (by omega) (by omega)
        have h5 : d[m]! ≠ d[m - 1]! := by
          unfold Lib.keeps at hk
          simp at hk
          rcases hk with hk | hk
          · omega
          · exact hk
        omega
      refine ⟨?_, fun y => ?_, fun y hy => ?_⟩
      · unfold asc at h1 ⊢
        rw [List.pairwise_append]
        exact ⟨h1, by simp, fun p hp t ht => by simp at ht; subst ht; exact hgt p hp⟩
      · rw [List.mem_append, h2]
        constructor
        · rintro (⟨j, hj, rfl⟩ | hy)
          · exact ⟨j, by omega, rfl⟩
          · simp at hy; exact ⟨m, by omega, hy⟩
        · rintro ⟨j, hj, rfl⟩
          by_cases e : j = m
          · subst e; exact .inr (by simp)
          · exact .inl ⟨j, by omega, rfl⟩
      · refine ⟨by omega, ?_⟩
        rw [Nat.add_sub_cancel]
        rcases List.mem_append.1 hy with hy | hy
        · exact Int.le_of_lt (hgt y hy)
        · simp at hy; omega
    · rw [if_neg hk, List.append_nil]
      have hk' : 0 < m ∧ d[m]! = d[m - 1]! := by
        unfold Lib.keeps at hk
        simp at hk
        exact ⟨by omega, hk.2⟩
      refine ⟨h1, fun y => ?_, fun y hy => ?_⟩
      · rw [h2]
        constructor
        · rintro ⟨j, hj, rfl⟩; exact ⟨j, by omega, rfl⟩
        · rintro ⟨j, hj, rfl⟩
          by_cases e : j = m
          · subst e; exact ⟨j - 1, by omega, hk'.2⟩
          · exact ⟨j, by omega, rfl⟩
      · refine ⟨by omega, ?_⟩
        rw [Nat.add_sub_cancel, hk'.2]
        exact (h3 y hy).2

/-- The numbers of a list, in order, none twice. -/
def edgesOf (l : List Int) : List Int := Lib.compact (l.mergeSort fun x y => decide (x ≤ y))

theorem edgesOf_spec (l : List Int) : asc (edgesOf l) ∧ ∀ y, y ∈ edgesOf l ↔ y ∈ l := by
  have hs : (l.mergeSort fun x y => decide (x ≤ y)).Pairwise (fun x y => decide (x ≤ y) = true) :=
    List.pairwise_mergeSort (fun a b c h1 h2 => by simp at *; omega) (fun a b => by simp; omega) l
  have hm : ∀ y, y ∈ (l.mergeSort fun x y => decide (x ≤ y)) ↔ y ∈ l := fun y => List.mem_mergeSort
  unfold edgesOf Lib.compact
  generalize (l.mergeSort fun x y => decide (x ≤ y)) = z at *
  have hd : ∀ i j, i ≤ j → j < z.toArray.size → z.toArray[i]! ≤ z.toArray[j]! := fun i j hij hj => by
    simp only [List.size_toArray] at hj
    rcases Nat.lt_or_eq_of_le hij with h | h
    · have := List.pairwise_iff_getElem.1 hs i j (by omega) hj h
      simp [show i < z.length by omega, hj] at this ⊢
      exact this
    · subst h; exact Int.le_refl _
  obtain ⟨h1, h2, _⟩ := compact_spec z.toArray hd z.length (by simp)
  refine ⟨h1, fun y => ?_⟩
  rw [h2, ← hm]
  constructor
  · rintro ⟨j, hj, rfl⟩
    simp [hj]
  · intro hy
    obtain ⟨j, hj, rfl⟩ := List.getElem_of_mem hy
    exact ⟨j, hj, by simp [hj]⟩

/-- The ends of spans, as they lie. -/
def endsL (l : List Sp) : List Int := l.flatMap fun s => [s.lo, s.hi]

theorem mem_endsL {l : List Sp} {y : Int} : y ∈ endsL l ↔ ∃ s, s ∈ l ∧ (y = s.lo ∨ y = s.hi) := by
  simp [endsL]

/-- The program's edges of two sets. -/
def edgesL (a b : List Sp) : List Int := edgesOf ([-1099511627776, 1099511627776] ++ endsL a ++ endsL b)

theorem edgesL_ends (a b : List Sp) : isEnds a b (edgesL a b) := by
  obtain ⟨h1, h2⟩ := edgesOf_spec ([-1099511627776, 1099511627776] ++ endsL a ++ endsL b)
  refine ⟨h1, fun y => ?_⟩
  unfold edgesL
  rw [h2]
  simp only [List.mem_append, mem_endsL, List.mem_cons, List.not_mem_nil, or_false]
  constructor
  · rintro ((h | h) | h)
    · exact .inl h
    · exact .inr (.inl h)
    · exact .inr (.inr h)
  · rintro (h | h | h)
    · exact .inl (.inl h)
    · exact .inl (.inr h)
    · exact .inr h

theorem compact_le {α : Type} [Inhabited α] [DecidableEq α] (z : List α) : (Lib.compact z).length ≤ z.length := by
  unfold Lib.compact Lib.compactUpTo
  rw [List.length_map]
  exact Nat.le_trans (List.length_filter_le _ _) (by simp)

theorem endsL_length (l : List Sp) : (endsL l).length = 2 * l.length := by
  induction l with
  | nil => rfl
  | cons s l ih => simp [endsL] at ih ⊢; omega

theorem edgesL_length (a b : List Sp) : (edgesL a b).length ≤ 2 + 2 * a.length + 2 * b.length := by
  have h := compact_le (([-1099511627776, 1099511627776] ++ endsL a ++ endsL b).mergeSort fun x y => decide (x ≤ y))
  rw [List.length_mergeSort] at h
  simp only [List.length_append, endsL_length, List.length_cons, List.length_nil] at h
  exact h

/-- What the program makes of two sets by a rule. -/
def chosen (f : Bool → Bool → Bool) (a b : List Sp) : List Sp := chosenL f a b (edgesL a b)

end Go.Proofs.YtifeapnhemolgaaGreatDoor.Pl
