/- Spans in memory of their own, with a mark behind; written over; are they kept? -/
import Derived.Test.YtifeapnhemolgaaWe
namespace Go.Proofs.Ytifeapnhemolgaa.Wk
open Go Go.RowKit Go.Proofs.Ytifeapnhemolgaa.HL Go.Proofs.Ytifeapnhemolgaa.Pl

theorem infoSp : (Try.prog.info? 37).map (fun i => (i.zero, i.size, i.bytes)) = some (some (.agg #[.int .i64 0, .int .i64 0]), 2, 16) := by kernel_rfl
theorem infoInt : (Try.prog.info? 3).map (fun i => (i.zero, i.size, i.bytes)) = some (some (.int .i64 0), 1, 8) := by kernel_rfl

theorem spc_append (a b : List Sp) : spc (a ++ b) = spc a ++ spc b := by simp [spc]

/-- What own's block holds when k spans are written. -/
def OwnC (la : List Sp) (k : Nat) (c : Array Value) : Prop := c.size = (la.length + 1) * 2 ∧ c.toList.take (k * 2) = spc (la.take k)

theorem OwnC.get {la : List Sp} {k : Nat} {c : Array Value} (h : OwnC la k c) {j : Nat} (hj : j < (la.length + 1) * 2) : ∃ v, c[j]? = some v :=
  ⟨c[j]'(by rw [h.1]; exact hj), by simp [h.1, hj]⟩

theorem OwnC.succ {la : List Sp} {k : Nat} {c : Array Value} (h : OwnC la k c) (hk : k < la.length) : OwnC la (k + 1) ((c.setIfInBounds (k * 2) (.int .i64 la[k].lo)).setIfInBounds (k * 2 + 1) (.int .i64 la[k].hi)) := by
  obtain ⟨h1, h2⟩ := h
  refine ⟨by simpa using h1, ?_⟩
  have e : la.take (k + 1) = la.take k ++ [la[k]] := List.take_succ_eq_append_getElem hk
  rw [e, spc_append, ← h2]
  apply List.ext_getElem?
  intro j
  simp only [Array.toList_setIfInBounds]
  have hl : (c.toList.take (k * 2)).length = k * 2 := by simp [h1] <;> omega
  by_cases hj : j < k * 2
  · rw [List.getElem?_append_left (by omega), List.getElem?_take, List.getElem?_take, if_pos (by omega), if_pos hj, List.getElem?_set_ne (by omega), List.getElem?_set_ne (by omega)]
  · by_cases h0 : j = k * 2
    · subst h0
      rw [List.getElem?_append_right (by omega), hl, List.getElem?_take, if_pos (by omega), List.getElem?_set_ne (by omega), List.getElem?_set_self (by simp [h1] <;> omega)]
      simp [spc]
    · by_cases h3 : j = k * 2 + 1
      · subst h3
        rw [List.getElem?_append_right (by omega), hl, List.getElem?_take, if_pos (by omega), List.getElem?_set_self (by simp [h1] <;> omega)]
        simp [spc]
      · rw [List.getElem?_append_right (by omega), hl, List.getElem?_take, if_neg (by omega)]
        symm
        apply List.getElem?_eq_none
        simp [spc] <;> omega

/-- What own's block holds at the end. -/
def OwnE (la : List Sp) (c : Array Value) : Prop := c.toList = spc la ++ [.int .i64 7, .int .i64 77]

theorem OwnC.done {la : List Sp} {c : Array Value} (h : OwnC la la.length c) : OwnE la ((c.setIfInBounds (la.length * 2) (.int .i64 7)).setIfInBounds (la.length * 2 + 1) (.int .i64 77)) := by
  obtain ⟨h1, h2⟩ := h
  rw [List.take_length] at h2
  unfold OwnE
  rw [← h2]
  apply List.ext_getElem?
  intro j
  simp only [Array.toList_setIfInBounds]
  have hl : (c.toList.take (la.length * 2)).length = la.length * 2 := by simp [h1] <;> omega
  by_cases hj : j < la.length * 2
  · rw [List.getElem?_append_left (by omega), List.getElem?_take, if_pos hj, List.getElem?_set_ne (by omega), List.getElem?_set_ne (by omega)]
  · by_cases h0 : j = la.length * 2
    · subst h0
      rw [List.getElem?_append_right (by omega), hl, List.getElem?_set_ne (by omega), List.getElem?_set_self (by simp [h1] <;> omega)]
      simp
    · by_cases h3 : j = la.length * 2 + 1
      · subst h3
        rw [List.getElem?_append_right (by omega), hl, List.getElem?_set_self (by simp [h1] <;> omega)]
        simp
      · rw [List.getElem?_append_right (by omega), hl]
        rw [List.getElem?_eq_none (by simp [h1] <;> omega), List.getElem?_eq_none (by simp <;> omega)]

set_option maxHeartbeats 1600000 in
theorem own_calls (S w : World) (H : Hp) (hw : Has S w H) (va : Value) (la : List Sp) (ha : SlIn H 2 va la.length (spc la)) (hm : la.length ≤ 140) :
    Calls Try.prog 9 #[va] w fun e w' => ∃ b c, e = .returned (.slice (some ⟨b, 0, none⟩) la.length (la.length + 1)) ∧ Has S w' ((b, .cells c 37 (0, 0)) :: H) ∧ OwnE la c := by
  obtain ⟨_, aa, ca, rfl, hca, hra⟩ := ha
  obtain ⟨i0, hi, hz0, hz1, hz2⟩ := info_parts infoSp
  have hmk := fun w => run_make (P := Try.prog) w 22 37 i0 _ Try.underlying22 hi hz0 .i64 .i64 ((la.length : Int) + 1) ((la.length : Int) + 1) (by omega) (Int.le_refl _) (by rw [hz2]; omega) (by omega)
  have hcs : OwnC la 0 (madeCells (Value.agg #[.int .i64 0, .int .i64 0]).cells (((la.length : Int) + 1).toNat * i0.size)) := by
    refine ⟨?_, by simp [spc]⟩
    rw [size_madeCells, hz1]; omega
  have hr1 : ((la.length : Int) + 1).toNat = la.length + 1 := by omega
  rw [hr1] at hcs
  simp only [hr1] at hmk
  clear hr1
  generalize madeCells (Value.agg #[.int .i64 0, .int .i64 0]).cells ((la.length + 1) * i0.size) = c0 at *
  have hx := hw.alloc (.cells c0 37)
  have HC := Lib.hid hcs
  have HX := Lib.hid hx
  clear hcs hx hz0 hz1 hz2 hi i0
  obtain ⟨B, hB⟩ : ∃ B, B = w.heap.size := ⟨_, rfl⟩
  rw [← hB] at HX
  have HB := Lib.hid hB
  clear hB
  go_enter Try.func9, Try.ntmps9
  go_wp2
  rw [← HB.out]
  go_loopw [4] (fun i wr => ∃ k : Nat, k ≤ la.length ∧ i = .int .i64 k ∧ ∃ c, OwnC la k c ∧ Has S wr ((B, .cells c 37 (0, 0)) :: H)) (fun i _ => la.length - (intOf i).toNat)
  case atStart => exact ⟨0, Nat.zero_le _, rfl, c0, HC.out, HX.out⟩
  case round =>
    obtain ⟨k, hk, rfl, c, hc, hw1⟩ := hrel
    by_cases hlt : k < la.length
    · obtain ⟨ba, oa, rfl, ra⟩ := hra (by omega)
      obtain ⟨a0, a1⟩ := sp_cells hw1 (ra.mono fun p hp => List.mem_cons_of_mem _ hp) (List.getElem?_eq_getElem hlt)
      obtain ⟨v0, g0⟩ := hc.get (j := k * 2) (by omega)
      obtain ⟨v1, g1⟩ := hc.get (j := k * 2 + 1) (by omega)
      have b0 := hw1.cell List.mem_cons_self g0
      have b1 := hw1.cell List.mem_cons_self g1
      have f0 := hw1.frozen List.mem_cons_self (k * 2)
      have f1 := hw1.frozen List.mem_cons_self (k * 2 + 1)
      have HC1 := Lib.hid (hc.succ hlt)
      have HW1 := Lib.hid ((hw1.setCell (o := k * 2) (.int .i64 la[k].lo)).setCell (o := k * 2 + 1) (.int .i64 la[k].hi))
      clear g0 g1 hc
      go_wp2
      exact ⟨⟨k + 1, by omega, by go_num, _, HC1.out, HW1.out⟩, by simp [intOf]; omega⟩
    · obtain rfl : k = la.length := by omega
      obtain ⟨v0, g0⟩ := hc.get (j := la.length * 2) (by omega)
      obtain ⟨v1, g1⟩ := hc.get (j := la.length * 2 + 1) (by omega)
      have b0 := hw1.cell List.mem_cons_self g0
      have b1 := hw1.cell List.mem_cons_self g1
      have f0 := hw1.frozen List.mem_cons_self (la.length * 2)
      have f1 := hw1.frozen List.mem_cons_self (la.length * 2 + 1)
      have HC1 := Lib.hid hc.done
      have HW1 := Lib.hid ((hw1.setCell (o := la.length * 2) (.int .i64 7)).setCell (o := la.length * 2 + 1) (.int .i64 77))
      clear g0 g1 hc
      go_wp2
      go_ret
      exact ⟨B, _, rfl, HW1.out, HC1.out⟩

end Go.Proofs.Ytifeapnhemolgaa.Wk
