/- Is a list a set (the specification's word); members, sizes, ranks. -/
import Derived.Test.YtifeapnhemolgaaGreatDoorWd
namespace Go.Proofs.YtifeapnhemolgaaGreatDoor.Wk
open Go Go.RowKit Go.Proofs.YtifeapnhemolgaaGreatDoor.HL Go.Proofs.YtifeapnhemolgaaGreatDoor.Pl

set_option maxHeartbeats 1600000 in
theorem rset_calls (S w : World) (H : Hp) (hw : Has S w H) (va : Value) (la : List Sp) (ha : SlIn H 2 va la.length (spc la)) :
    Calls Tryz.prog 25 #[va] w fun e w' => e = .returned (.bool (isSet la)) ∧ Below w.heap.size w w' := by
  obtain ⟨_, aa, ca, rfl, hca, hra⟩ := ha
  by_cases hl : la.length ≤ 128
  · go_enter Tryz.func25, Tryz.ntmps25
    go_wp2
    go_loopw [3] (fun i wr => ∃ k : Nat, k ≤ la.length ∧ i = .int .i64 k ∧ Hid (∀ j, j < k → fitsAt la j = true) ∧ Below w.heap.size w wr) (fun i _ => la.length - (intOf i).toNat)
    case atStart => exact ⟨0, Nat.zero_le _, rfl, by simp [Hid], Below.refl _ _⟩
    case round =>
      obtain ⟨k, hk, rfl, he, hB⟩ := hrel
      have hw1 := hw.below hB
      by_cases hlt : k < la.length
      · obtain ⟨ba, oa, rfl, ra⟩ := hra (by omega)
        obtain ⟨a0, a1⟩ := sp_cells hw1 ra (List.getElem?_eq_getElem hlt)
        have hba := World.block_lt_of_cell? wr _ a0
        have hw2 := hw1
        have d0 := kept_cell a0
        have d1 := kept_cell a1
        have hB' : ∀ w', Kept wr w' → Below w.heap.size w w' := fun w' h => hB.trans (h.mono hB.size)
        have fin : ∀ b, fitsAt la k = b → Hid (fitsAt la k = b) := fun _ h => h
        by_cases hok : la[k].ok = true
        · by_cases h0 : 0 < k
          · have hp : k - 1 < la.length := by omega
            have p1 := fun x => (sp_cells (hw2.cw x) ra (List.getElem?_eq_getElem hp)).2
            have e0 : (k == 0) = false := by simp; omega
            by_cases hgt : la[k - 1].hi ≥ la[k].lo
            · have hf := fin false (by simp [fitsAt, hlt, hp, hok, e0]; omega)
              clear e0
              go_wp2
              refine region_kept (by kernel_rfl) (by kernel_rfl) ?_
              repeat (go_big_quiet_step ((go_at_call 47; exact Calls.kept (good_calls _ _))))
              refine wpQuiet_nil fun w' hw' => ?_
              go_wp2
              go_ret
              exact ⟨by rw [not_set hlt hf.out]; rfl, hB' _ hw'⟩
            · have hf := fin true (by simp [fitsAt, hlt, hp, hok, e0]; omega)
              clear e0
              go_wp2
              refine region_kept (by kernel_rfl) (by kernel_rfl) ?_
              repeat (go_big_quiet_step ((go_at_call 47; exact Calls.kept (good_calls _ _))))
              refine wpQuiet_nil fun w' hw' => ?_
              go_wp2
              exact ⟨⟨k + 1, by omega, by go_num, fits_succ he.out hf.out, hB' _ hw'⟩, by simp [intOf]; omega⟩
          · have e0 : (k == 0) = true := by simp; omega
            have hf := fin true (by simp [fitsAt, hlt, hok, e0])
            clear e0
            go_wp2
            refine region_kept (by kernel_rfl) (by kernel_rfl) ?_
            repeat (go_big_quiet_step ((go_at_call 47; exact Calls.kept (good_calls _ _))))
            refine wpQuiet_nil fun w' hw' => ?_
            go_wp2
            exact ⟨⟨k + 1, by omega, by go_num, fits_succ he.out hf.out, hB' _ hw'⟩, by simp [intOf]; omega⟩
        · have hok : la[k].ok = false := by simpa using hok
          have hf := fin false (by simp [fitsAt, hlt, hok])
          go_wp2
          refine region_kept (by kernel_rfl) (by kernel_rfl) ?_
          repeat (go_big_quiet_step ((go_at_call 47; exact Calls.kept (good_calls _ _))))
          refine wpQuiet_nil fun w' hw' => ?_
          go_wp2
          go_ret
          exact ⟨by rw [not_set hlt hf.out]; rfl, hB' _ hw'⟩
      · have hs : Hid (isSet la = true) := by
          simp only [Hid, isSet, Bool.and_eq_true, decide_eq_true_eq]
          exact ⟨hl, (chain_iff la).2 fun i hi => he.out i (by omega)⟩
        go_wp2
        go_ret
        exact ⟨by rw [hs.out]; rfl, hB⟩
  · have hs : Hid (isSet la = false) := by simp [Hid, isSet, hl]
    go_enter Tryz.func25, Tryz.ntmps25
    go_wp2
    go_ret
    exact ⟨by rw [hs.out]; rfl, Below.refl _ _⟩
















/-- What listed says of a list. -/
def listE (l : List Sp) : Int := if 128 < l.length then 3 else if l.any (fun s => !s.ok) then 2 else 0

theorem enters_listed1 : ∀ args w, (callFunc 55 args).run Tryz.prog w = .ok (.enter 55 args) w := enters Tryz.func55 (by kernel_rfl) rfl

theorem enters_has1 : ∀ args w, (callFunc 54 args).run Tryz.prog w = .ok (.enter 54 args) w := enters Tryz.func54 (by kernel_rfl) rfl

theorem listed_calls (S w : World) (H : Hp) (hw : Has S w H) (va : Value) (la : List Sp) (ha : SlIn H 2 va la.length (spc la)) :
    Calls Tryz.prog 35 #[va] w fun e w' => e = .returned (.int .i64 (listE la)) ∧ Below w.heap.size w w' := by
  have ha' := ha
  obtain ⟨_, aa, ca, rfl, hca, hra⟩ := ha'
  by_cases hl : la.length ≤ 128
  · have h := contains_calls S w H hw _ la ha (by omega) 55 #[] (fun s => !s.ok) enters_listed1 (fun s w' _ => listed1_calls s w')
    have hf : Hid (listE la = if la.any (fun s => !s.ok) then 2 else 0) := by unfold Hid listE; rw [if_neg (by omega)]
    generalize la.any (fun s => !s.ok) = q at *
    have HC := Lib.hid h
    clear h ha
    cases q
    all_goals
      go_enter Tryz.func35, Tryz.ntmps35
      go_wp2_with (go_at_call 53; refine HC.out.mono ?_; rintro e w' ⟨rfl, hb⟩)
      go_ret
      exact ⟨by rw [hf.out]; rfl, hb⟩
  · have hf : Hid (listE la = 3) := by unfold Hid listE; rw [if_pos (by omega)]
    go_enter Tryz.func35, Tryz.ntmps35
    go_wp2
    go_ret
    exact ⟨by rw [hf.out]; rfl, Below.refl _ _⟩

theorem has_calls (S w : World) (H : Hp) (hw : Has S w H) (va : Value) (la : List Sp) (ha : SlIn H 2 va la.length (spc la)) (x : Int) :
    Calls Tryz.prog 34 #[va, .int .i64 x] w fun e w' => e = .returned (.tuple #[.bool (isSet la && inB la x), .int .i64 (if isSet la then 0 else 2)]) ∧ Below w.heap.size w w' := by
  have hw1 := hw.more (.cells #[.int .i64 x] 3)
  have hv := fun w' (h : Below w.heap.size w w') => set_calls S w' H (hw.below h) va la ha
  have nc := new_cell w #[.int .i64 x] 3 0 rfl
  by_cases hs : isSet la = true
  · have hle : la.length ≤ 128 := by simp [isSet] at hs; exact hs.1
    have hc := fun w' (h : Below (w.heap.size + 1) (w.alloc (.cells #[.int .i64 x] 3)) w') => contains_calls S w' H (hw1.below (by simpa using h)) va la ha (by omega) 54 #[.pointer (some ⟨w.heap.size, 0, none⟩)] (fun s => decide (s.lo ≤ x ∧ x < s.hi)) enters_has1
      (fun s w'' h2 => has1_calls w'' s x w.heap.size ((h2.cell (p := ⟨w.heap.size, 0, none⟩) (by have := h.size; simp at this ⊢; omega)).trans ((h.cell (p := ⟨w.heap.size, 0, none⟩) (by simp)).trans nc)) (by have := h.size; have := h2.size; simp at *; omega))
    rw [hs] at hv
    have HV := Lib.hid hv
    have HC := Lib.hid hc
    have HS := Lib.hid hs
    clear hv hc hs
    change Hid (∀ w' (h : _), Calls _ _ _ _ (fun e w'' => e = .returned (.bool (inB la x)) ∧ _)) at HC
    generalize hq : inB la x = q at *
    clear hq
    go_enter Tryz.func34, Tryz.ntmps34
    go_wp2_with fail
    refine (HV.out _ ((Below.refl _ _).alloc (Nat.le_refl _) _)).mono ?_
    rintro e w1 ⟨rfl, hb1⟩
    go_wp2_with fail
    refine (HC.out _ (by simpa using hb1)).mono ?_
    rintro e w2 ⟨rfl, hb2⟩
    go_wp2
    go_ret2
    refine ⟨by rfl, ?_⟩
    exact (((Below.refl _ _).alloc (Nat.le_refl _) _).trans (hb1.mono (by simp))).trans (hb2.mono (by have := hb1.size; simp at this; omega))
  · have hs : isSet la = false := by simpa using hs
    rw [hs] at hv
    have HV := Lib.hid hv
    have HS := Lib.hid hs
    clear hv hs
    go_enter Tryz.func34, Tryz.ntmps34
    go_wp2_with fail
    refine (HV.out _ ((Below.refl _ _).alloc (Nat.le_refl _) _)).mono ?_
    rintro e w1 ⟨rfl, hb1⟩
    go_wp2
    go_ret2
    exact ⟨by rfl, ((Below.refl _ _).alloc (Nat.le_refl _) _).trans (hb1.mono (by simp))⟩

end Go.Proofs.YtifeapnhemolgaaGreatDoor.Wk
