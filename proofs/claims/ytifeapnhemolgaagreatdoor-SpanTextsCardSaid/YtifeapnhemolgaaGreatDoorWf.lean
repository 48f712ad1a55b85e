/- Spans in memory of their own, with a mark behind; written over; are they kept? -/
import Derived.Test.YtifeapnhemolgaaGreatDoorWe
namespace Go.Proofs.YtifeapnhemolgaaGreatDoor.Wk
open Go Go.RowKit Go.Proofs.YtifeapnhemolgaaGreatDoor.HL Go.Proofs.YtifeapnhemolgaaGreatDoor.Pl

theorem infoSp : (Tryz.prog.info? 41).map (fun i => (i.zero, i.size, i.bytes)) = some (some (.agg #[.int .i64 0, .int .i64 0]), 2, 16) := by kernel_rfl
theorem infoInt : (Tryz.prog.info? 3).map (fun i => (i.zero, i.size, i.bytes)) = some (some (.int .i64 0), 1, 8) := by kernel_rfl

theorem spc_append (a b : List Sp) : spc (a ++ b) = spc a ++ spc b := by simp [spc]

/-- What own's block holds when k spans are written. -/
def OwnC (la : List Sp) (k : Nat) (c : Array Value) : Prop := c.size = (la.length + 1) * 2 ∧ c.toList.take (k * 2) = spc (la.take k)

theorem OwnC.get {la : List Sp} {k : Nat} {c : Array Value} (h : OwnC la k c) {j : Nat} (hj : j < (la.length + 1) * 2) : ∃ v, c[j]? = some v :=
  ⟨c[j]'(by rw [h.1]; exact hj), by simp [h.1, hj]⟩

theorem OwnC.succ {la : List Sp} {k : Nat} {c : Array Value} (h : OwnC la k c) (hk : k < la.length) : OwnC la (k + 1) ((c.setIfInBounds (k * 2) (.int .i64 la[k].lo)).setIfInBounds (k * 2 + 1) (.int .i64 la[k].hi)) := by
  obtain ⟨h1, h2⟩ := h
  refine ⟨by simpa using h1, ?_⟩
  have e : la.take (k + 1) = la.take k ++ [la[k]] := List.take_succ_eq_append_getElem hk
  rw [e, spc_append, ← h2]
  apply List.ext_getElem?
  intro j
  simp only [Array.toList_setIfInBounds]
  have hl : (c.toList.take (k * 2)).length = k * 2 := by simp [h1] <;> omega
  by_cases hj : j < k * 2
  · rw [List.getElem?_append_left (by omega), List.getElem?_take, List.getElem?_take, if_pos (by omega), if_pos hj, List.getElem?_set_ne (by omega), List.getElem?_set_ne (by omega)]
  · by_cases h0 : j = k * 2
    · subst h0
      rw [List.getElem?_append_right (by omega), hl, List.getElem?_take, if_pos (by omega), List.getElem?_set_ne (by omega), List.getElem?_set_self (by simp [h1] <;> omega)]
      simp [spc]
    · by_cases h3 : j = k * 2 + 1
      · subst h3
        rw [List.getElem?_append_right (by omega), hl, List.getElem?_take, if_pos (by omega), List.getElem?_set_self (by simp [h1] <;> omega)]
        simp [spc]
      · rw [List.getElem?_append_right (by omega), hl, List.getElem?_take, if_neg (by omega)]
        symm
        apply List.getElem?_eq_none
        simp [spc] <;> omega

/-- What own's block holds at the end. -/
def OwnE (la : List Sp) (c : Array Value) : Prop := c.toList = spc la ++ [.int .i64 7, .int .i64 77]

theorem OwnC.done {la : List Sp} {c : Array Value} (h : OwnC la la.length c) : OwnE la ((c.setIfInBounds (la.length * 2) (.int .i64 7)).setIfInBounds (la.length * 2 + 1) (.int .i64 77)) := by
  obtain ⟨h1, h2⟩ := h
  rw [List.take_length] at h2
  unfold OwnE
  rw [← h2]
  apply List.ext_getElem?
  intro j
  simp only [Array.toList_setIfInBounds]
  have hl : (c.toList.take (la.length * 2)).length = la.length * 2 := by simp [h1] <;> omega
  by_cases hj : j < la.length * 2
  · rw [List.getElem?_append_left (by omega), List.getElem?_take, if_pos hj, List.getElem?_set_ne (by omega), List.getElem?_set_ne (by omega)]
  · by_cases h0 : j = la.length * 2
    · subst h0
      rw [List.getElem?_append_right (by omega), hl, List.getElem?_set_ne (by omega), List.getElem?_set_self (by simp [h1] <;> omega)]
      simp
    · by_cases h3 : j = la.length * 2 + 1
      · subst h3
        rw [List.getElem?_append_right (by omega), hl, List.getElem?_set_self (by simp [h1] <;> omega)]
        simp
      · rw [List.getElem?_append_right (by omega), hl]
        rw [List.getElem?_eq_none (by simp [h1] <;> omega), List.getElem?_eq_none (by simp <;> omega)]


























































end Go.Proofs.YtifeapnhemolgaaGreatDoor.Wk
