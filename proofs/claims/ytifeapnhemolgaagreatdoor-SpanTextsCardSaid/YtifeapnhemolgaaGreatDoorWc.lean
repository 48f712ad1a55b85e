/- The small functions of the sets and of their specification. -/
import Derived.Test.YtifeapnhemolgaaGreatDoorWb
import Derived.Test.YtifeapnhemolgaaGreatDoorPb
namespace Go.Proofs.YtifeapnhemolgaaGreatDoor.Wk
open Go Go.RowKit Go.Proofs.YtifeapnhemolgaaGreatDoor.HL Go.Proofs.YtifeapnhemolgaaGreatDoor.Pl

theorem few_calls (w : World) (ao : Option Addr) (n c : Nat) : Calls Tryz.prog 5 #[.slice ao n c] w fun e w' => e = .returned (.bool (decide (n ≤ 140))) ∧ Below w.heap.size w w' := by
  by_cases h : n ≤ 140
  all_goals
    go_enter Tryz.func5, Tryz.ntmps5
    go_wp2
    go_ret
    exact ⟨by simp [h] <;> omega, Below.refl _ _⟩

theorem either_calls (w : World) (a b : Bool) : Calls Tryz.prog 32 #[.bool a, .bool b] w fun e w' => e = .returned (.bool (a || b)) ∧ Below w.heap.size w w' := by
  cases a <;> cases b
  all_goals
    go_enter Tryz.func32, Tryz.ntmps32
    go_wp2
    go_ret
    exact ⟨rfl, Below.refl _ _⟩

theorem both_calls (w : World) (a b : Bool) : Calls Tryz.prog 33 #[.bool a, .bool b] w fun e w' => e = .returned (.bool (a && b)) ∧ Below w.heap.size w w' := by
  cases a <;> cases b
  all_goals
    go_enter Tryz.func33, Tryz.ntmps33
    go_wp2
    go_ret
    exact ⟨rfl, Below.refl _ _⟩

















theorem nan_calls (w : World) (a : Int) : Calls Tryz.prog 58 #[.int .i64 a] w fun e w' => e = .returned (.bool false) ∧ w = w' := by
  go_enter Tryz.func58, Tryz.ntmps58
  go_wp2
  go_ret
  exact ⟨by simp, rfl⟩

/-- What cmp.Compare says. -/
def cmpI (a b : Int) : Int := if a < b then -1 else if b < a then 1 else 0

theorem compare_calls (w : World) (a b : Int) : Calls Tryz.prog 39 #[.int .i64 a, .int .i64 b] w fun e w' => e = .returned (.int .i64 (cmpI a b)) ∧ w = w' := by
  by_cases h1 : a < b
  · go_enter Tryz.func39, Tryz.ntmps39
    go_wp2_with (go_at_call 58; refine (nan_calls _ _).mono ?_; rintro e w' ⟨rfl, rfl⟩)
    go_ret
    exact ⟨by simp [cmpI, h1], rfl⟩
  · by_cases h2 : b < a
    all_goals
      go_enter Tryz.func39, Tryz.ntmps39
      go_wp2_with (go_at_call 58; refine (nan_calls _ _).mono ?_; rintro e w' ⟨rfl, rfl⟩)
      go_ret
      exact ⟨by first | (simp [cmpI, h1, h2]; done) | (unfold cmpI; rw [if_neg (by omega), if_neg (by omega)]; rfl), rfl⟩

theorem good_calls (s : Sp) (w : World) : Calls Tryz.prog 47 #[.agg #[.int .i64 s.lo, .int .i64 s.hi]] w fun e w' => e = .returned (.bool s.ok) ∧ Below w.heap.size w w' := by
  obtain ⟨lo, hi⟩ := s
  by_cases h1 : -1099511627776 ≤ lo <;> by_cases h2 : lo < hi <;> by_cases h3 : hi ≤ 1099511627776
  all_goals first | (exfalso; omega) | skip
  all_goals
    go_enter Tryz.func47, Tryz.ntmps47
    go_wp2
    go_ret
    exact ⟨by simp [Sp.ok, h1, h2, h3], (Below.refl _ _).alloc (Nat.le_refl _) _⟩











theorem has1_calls (w : World) (s : Sp) (x : Int) (b : Nat) (hx : w.cell? ⟨b, 0, none⟩ = some (.int .i64 x)) (hb : b < w.heap.size) :
    Calls Tryz.prog 54 #[.agg #[.int .i64 s.lo, .int .i64 s.hi], .pointer (some ⟨b, 0, none⟩)] w fun e w' => e = .returned (.bool (decide (s.lo ≤ x ∧ x < s.hi))) ∧ Below w.heap.size w w' := by
  obtain ⟨lo, hi⟩ := s
  by_cases h1 : lo ≤ x <;> by_cases h2 : x < hi
  all_goals
    go_enter Tryz.func54, Tryz.ntmps54
    go_wp2
    go_ret
    exact ⟨by simp [h1, h2], (Below.refl _ _).alloc (Nat.le_refl _) _⟩

theorem listed1_calls (s : Sp) (w : World) : Calls Tryz.prog 55 #[.agg #[.int .i64 s.lo, .int .i64 s.hi]] w fun e w' => e = .returned (.bool (!s.ok)) ∧ Below w.heap.size w w' := by
  go_enter Tryz.func55, Tryz.ntmps55
  go_wp2_with (go_at_call 42; refine (valid_calls _ _).mono ?_; rintro e w' ⟨rfl, hb⟩)
  go_ret
  exact ⟨rfl, ((Below.refl _ _).alloc (Nat.le_refl _) _).trans (hb.mono (by simp))⟩

theorem byLo_calls (s t : Sp) (w : World) : Calls Tryz.prog 38 #[.agg #[.int .i64 s.lo, .int .i64 s.hi], .agg #[.int .i64 t.lo, .int .i64 t.hi]] w fun e w' => e = .returned (.int .i64 (cmpI s.lo t.lo)) ∧ Below w.heap.size w w' := by
  go_enter Tryz.func38, Tryz.ntmps38
  go_wp2_with (go_at_call 39; refine (compare_calls _ _ _).mono ?_; rintro e w' ⟨rfl, rfl⟩)
  go_ret
  exact ⟨rfl, ((Below.refl _ _).alloc (Nat.le_refl _) _).alloc (by simp) _⟩


end Go.Proofs.YtifeapnhemolgaaGreatDoor.Wk
