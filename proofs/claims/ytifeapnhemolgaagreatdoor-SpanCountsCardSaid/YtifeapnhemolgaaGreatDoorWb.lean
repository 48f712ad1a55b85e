/- Is a list a set? -/
import Derived.Test.YtifeapnhemolgaaGreatDoorWa
namespace Go.Proofs.YtifeapnhemolgaaGreatDoor.Wk
open Go Go.RowKit Go.Proofs.YtifeapnhemolgaaGreatDoor.HL Go.Proofs.YtifeapnhemolgaaGreatDoor.Pl

theorem fits_succ {la : List Sp} {k : Nat} (h : ∀ j, j < k → fitsAt la j = true) (hk : fitsAt la k = true) : Hid (∀ j, j < k + 1 → fitsAt la j = true) := fun j hj => by
  by_cases e : j = k
  · exact e ▸ hk
  · exact h j (by omega)

theorem not_set {la : List Sp} {k : Nat} (hk : k < la.length) (h : fitsAt la k = false) : isSet la = false := by
  cases hs : isSet la with
  | false => rfl
  | true =>
    simp only [isSet, Bool.and_eq_true] at hs
    have := (chain_iff la).1 hs.2 k hk
    rw [h] at this
    cases this

set_option maxHeartbeats 1600000 in
theorem set_calls (S w : World) (H : Hp) (hw : Has S w H) (va : Value) (la : List Sp) (ha : SlIn H 2 va la.length (spc la)) :
    Calls Tryz.prog 22 #[va] w fun e w' => e = .returned (.bool (isSet la)) ∧ Below w.heap.size w w' := by
  obtain ⟨_, aa, ca, rfl, hca, hra⟩ := ha
  by_cases hl : la.length ≤ 128
  · go_enter Tryz.func22, Tryz.ntmps22
    go_wp2
    go_loopw [10] (fun i wr => ∃ k : Nat, k ≤ la.length ∧ i = .int .i64 k ∧ Hid (∀ j, j < k → fitsAt la j = true) ∧ Below w.heap.size w wr) (fun i _ => la.length - (intOf i).toNat)
    case atStart => exact ⟨0, Nat.zero_le _, rfl, by simp [Hid], Below.refl _ _⟩
    case round =>
      obtain ⟨k, hk, rfl, he, hB⟩ := hrel
      have hw1 := hw.below hB
      by_cases hlt : k < la.length
      · obtain ⟨ba, oa, rfl, ra⟩ := hra (by omega)
        obtain ⟨a0, a1⟩ := sp_cells hw1 ra (List.getElem?_eq_getElem hlt)
        have hba := World.block_lt_of_cell? wr _ a0
        have hw2 := hw1.more (.cells #[.int .i64 la[k].lo, .int .i64 la[k].hi] 41)
        have d0 := kept_cell (new_cell wr #[.int .i64 la[k].lo, .int .i64 la[k].hi] 41 0 rfl)
        have d1 := kept_cell (new_cell wr #[.int .i64 la[k].lo, .int .i64 la[k].hi] 41 1 rfl)
        have hB' : ∀ w', Kept (wr.alloc (.cells #[.int .i64 la[k].lo, .int .i64 la[k].hi] 41)) w' → Below w.heap.size w w' := fun w' h => (hB.alloc hB.size _).trans (h.mono (by have := hB.size; simp; omega))
        have fin : ∀ b, fitsAt la k = b → Hid (fitsAt la k = b) := fun _ h => h
        by_cases hok : la[k].ok = true
        · by_cases h0 : 0 < k
          · have hp : k - 1 < la.length := by omega
            have p1 := fun x => (sp_cells (hw2.cw x) ra (List.getElem?_eq_getElem hp)).2
            have e0 : (k == 0) = false := by simp; omega
            by_cases hgt : la[k - 1].hi ≥ la[k].lo
            · have hf := fin false (by simp [fitsAt, hlt, hp, hok, e0]; omega)
              clear e0
              go_wp2
              refine region_kept (by kernel_rfl) (by kernel_rfl) ?_
              repeat (go_big_quiet_step ((go_at_call 42; exact Calls.kept (valid_calls _ _))))
              refine wpQuiet_nil fun w' hw' => ?_
              go_wp2
              go_ret
              exact ⟨by rw [not_set hlt hf.out]; rfl, hB' _ hw'⟩
            · have hf := fin true (by simp [fitsAt, hlt, hp, hok, e0]; omega)
              clear e0
              go_wp2
              refine region_kept (by kernel_rfl) (by kernel_rfl) ?_
              repeat (go_big_quiet_step ((go_at_call 42; exact Calls.kept (valid_calls _ _))))
              refine wpQuiet_nil fun w' hw' => ?_
              go_wp2
              exact ⟨⟨k + 1, by omega, by go_num, fits_succ he.out hf.out, hB' _ hw'⟩, by simp [intOf]; omega⟩
          · have e0 : (k == 0) = true := by simp; omega
            have hf := fin true (by simp [fitsAt, hlt, hok, e0])
            clear e0
            go_wp2
            refine region_kept (by kernel_rfl) (by kernel_rfl) ?_
            repeat (go_big_quiet_step ((go_at_call 42; exact Calls.kept (valid_calls _ _))))
            refine wpQuiet_nil fun w' hw' => ?_
            go_wp2
            exact ⟨⟨k + 1, by omega, by go_num, fits_succ he.out hf.out, hB' _ hw'⟩, by simp [intOf]; omega⟩
        · have hok : la[k].ok = false := by simpa using hok
          have hf := fin false (by simp [fitsAt, hlt, hok])
          go_wp2
          refine region_kept (by kernel_rfl) (by kernel_rfl) ?_
          repeat (go_big_quiet_step ((go_at_call 42; exact Calls.kept (valid_calls _ _))))
          refine wpQuiet_nil fun w' hw' => ?_
          go_wp2
          go_ret
          exact ⟨by rw [not_set hlt hf.out]; rfl, hB' _ hw'⟩
      · have hs : Hid (isSet la = true) := by
          simp only [Hid, isSet, Bool.and_eq_true, decide_eq_true_eq]
          exact ⟨hl, (chain_iff la).2 fun i hi => he.out i (by omega)⟩
        go_wp2
        go_ret
        exact ⟨by rw [hs.out]; rfl, hB⟩
  · have hs : Hid (isSet la = false) := by simp [Hid, isSet, hl]
    go_enter Tryz.func22, Tryz.ntmps22
    go_wp2
    go_ret
    exact ⟨by rw [hs.out]; rfl, Below.refl _ _⟩

end Go.Proofs.YtifeapnhemolgaaGreatDoor.Wk
