/- Grow and Shrink are adjoint; two tolerances in sequence act like their sum. -/
import Derived.Test.YtifeapnhemolgaaPh
namespace Go.Proofs.Ytifeapnhemolgaa.Pl

theorem grow_len (a : List Sp) (r : Int) : (growL r a).length ≤ a.length := by
  have := joinL_length (a.map (growS r))
  rw [List.length_map] at this
  exact this

theorem shrink_len (r : Int) : ∀ (a : List Sp), (shrinkL r a).length ≤ a.length
  | [] => by simp [shrinkL]
  | s :: l => by
    have ih := shrink_len r l
    have e : shrinkL r (s :: l) = shrinkS r s ++ shrinkL r l := by simp [shrinkL]
    rw [e, List.length_append, List.length_cons]
    rcases shrinkS_one r s with h | ⟨t, h⟩
    · rw [h]; simp; omega
    · rw [h]; simp; omega

/-- Grow(a, r) lies in b exactly if a lies in Shrink(b, r). -/
theorem adjoint {a b : List Sp} (ha : isSet a = true) (hb : isSet b = true) {r : Int} (hr : 0 ≤ r) :
    (∀ x, inB (growL r a) x = true → inB b x = true) ↔ (∀ x, inB a x = true → inB (shrinkL r b) x = true) := by
  obtain ⟨_, _, g3⟩ := grow_spec ha hr
  obtain ⟨_, _, s3⟩ := shrink_spec hb hr
  constructor
  · intro h x hx
    exact (s3 x).2 ⟨set_inW ha hx, fun y hy h1 h2 => h y ((g3 y).2 ⟨hy, x, hx, by omega, by omega⟩)⟩
  · intro h x hx
    obtain ⟨hw, z, hz, h1, h2⟩ := (g3 x).1 hx
    exact ((s3 z).1 (h z hz)).2 x hw (by omega) (by omega)

theorem inW_iff {x : Int} : inW x = true ↔ -1099511627776 ≤ x ∧ x < 1099511627776 := by simp [inW]

/-- Between two numbers of the whole there is one that is near to both. -/
theorem midway {x y r q : Int} (hr : 0 ≤ r) (hq : 0 ≤ q) (hx : inW x = true) (hy : inW y = true) (h1 : x - (r + q) ≤ y) (h2 : y ≤ x + (r + q)) :
    ∃ z, inW z = true ∧ x - q ≤ z ∧ z ≤ x + q ∧ z - r ≤ y ∧ y ≤ z + r := by
  rw [inW_iff] at hx hy
  by_cases h : x ≤ y
  · exact ⟨min y (x + q), inW_iff.2 (by omega), by omega, by omega, by omega, by omega⟩
  · exact ⟨max y (x - q), inW_iff.2 (by omega), by omega, by omega, by omega, by omega⟩

theorem grow_twice {a : List Sp} (ha : isSet a = true) {r q : Int} (hr : 0 ≤ r) (hq : 0 ≤ q) : growL q (growL r a) = growL (r + q) a := by
  obtain ⟨_, _, g3⟩ := grow_spec ha hr
  obtain ⟨k1, _, k3⟩ := grow_spec (grow_set ha hr) hq
  obtain ⟨j1, _, j3⟩ := grow_spec ha (r := r + q) (by omega)
  refine k1.unique j1 fun x => ?_
  rw [Bool.eq_iff_iff, k3, j3]
  constructor
  · rintro ⟨hw, z, hz, h1, h2⟩
    obtain ⟨hwz, u, hu, h3, h4⟩ := (g3 z).1 hz
    exact ⟨hw, u, hu, by omega, by omega⟩
  · rintro ⟨hw, u, hu, h1, h2⟩
    obtain ⟨z, hz, m1, m2, m3, m4⟩ := midway hr hq hw (set_inW ha hu) h1 h2
    exact ⟨hw, z, (g3 z).2 ⟨hz, u, hu, m3, m4⟩, m1, m2⟩

theorem shrink_twice {b : List Sp} (hb : isSet b = true) {r q : Int} (hr : 0 ≤ r) (hq : 0 ≤ q) : shrinkL q (shrinkL r b) = shrinkL (r + q) b := by
  obtain ⟨_, _, s3⟩ := shrink_spec hb hr
  obtain ⟨k1, _, k3⟩ := shrink_spec (shrink_set hb hr) hq
  obtain ⟨j1, _, j3⟩ := shrink_spec hb (r := r + q) (by omega)
  refine k1.unique j1 fun x => ?_
  rw [Bool.eq_iff_iff, k3, j3]
  constructor
  · rintro ⟨hw, h⟩
    refine ⟨hw, fun y hy h1 h2 => ?_⟩
    obtain ⟨z, hz, m1, m2, m3, m4⟩ := midway hr hq hw hy h1 h2
    exact ((s3 z).1 (h z hz m1 m2)).2 y hy m3 m4
  · rintro ⟨hw, h⟩
    exact ⟨hw, fun z hz h1 h2 => (s3 z).2 ⟨hz, fun y hy h3 h4 => h y hy (by omega) (by omega)⟩⟩

end Go.Proofs.Ytifeapnhemolgaa.Pl
