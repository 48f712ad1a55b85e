/- The small functions of the statements by the chapter's theorems. -/
import Derived.Test.YtifeapnhemolgaaGreatDoorTa
import Derived.Test.YtifeapnhemolgaaGreatDoorPh
namespace Go.Proofs.YtifeapnhemolgaaGreatDoor.Wk
open Go Go.RowKit Go.Proofs.YtifeapnhemolgaaGreatDoor.HL Go.Proofs.YtifeapnhemolgaaGreatDoor.Pl

/-- A variable's value is a slice of its own that holds the spans out. -/
def GrowS (S : World) (H : Hp) (out : List Sp) (v : Value) (w : World) : Prop := ∃ Hs, SlR 41 2 v out.length (spc out) Hs ∧ Has S w (Hs ++ H)

theorem filter_snoc (la : List Sp) (k : Nat) (h : k < la.length) : (la.take (k + 1)).filter (fun s => s.ok) = (la.take k).filter (fun s => s.ok) ++ if la[k].ok then [la[k]] else [] := by
  rw [List.take_succ_eq_append_getElem h, List.filter_append]
  congr 1
  by_cases h : la[k].ok = true <;> simp [h]

theorem setsIn_end (la : List Sp) (k : Nat) (hk : la.length ≤ k ∨ ((la.take k).filter (fun s => s.ok)).length = 60) (hl : ((la.take k).filter (fun s => s.ok)).length ≤ 60) : setsIn la = (la.take k).filter (fun s => s.ok) := by
  unfold setsIn
  rcases hk with h | h
  · rw [List.take_of_length_le h] at hl ⊢
    exact List.take_of_length_le hl
  · have e : la.filter (fun s => s.ok) = (la.take k).filter (fun s => s.ok) ++ (la.drop k).filter (fun s => s.ok) := by rw [← List.filter_append, List.take_append_drop]
    rw [e, ← h, List.take_left]

theorem listE_sets (l : List Sp) : listE (setsIn l) = 0 := by
  have h1 := setsIn_length l
  unfold listE
  rw [if_neg (by omega), if_neg]
  intro h
  obtain ⟨s, hs, hk⟩ := List.any_eq_true.1 h
  rw [setsIn_ok l s hs] at hk
  cases hk

set_option maxHeartbeats 3200000 in
set_option maxRecDepth 100000 in
theorem sets_calls (S w : World) (H : Hp) (hw : Has S w H) (va : Value) (la : List Sp) (ha : SlIn H 2 va la.length (spc la)) (hm : la.length ≤ maxLen) :
    Calls Tryz.prog 12 #[va] w (MadeS S H (setOf la)) := by
  obtain ⟨i0, hi, hz0, hz1, hz2⟩ := info_parts infoSp
  unfold maxLen at hm
  obtain ⟨_, aa, ca, rfl, hca, hra⟩ := ha
  go_enter Tryz.func12, Tryz.ntmps12
  go_wp2
  go_loopw [3, 4] (fun v i wr => ∃ k : Nat, k ≤ la.length ∧ i = .int .i64 k ∧ ((la.take k).filter (fun s => s.ok)).length ≤ 60 ∧ GrowS S H ((la.take k).filter (fun s => s.ok)) v wr) (fun _ i _ => la.length - (intOf i).toNat)
  case atStart => exact ⟨0, Nat.zero_le _, rfl, by simp, [], SlR.nil _ _, hw⟩
  case round =>
    obtain ⟨k, hk, rfl, hl, Hs, hv, hw1⟩ := hrel
    obtain ⟨vo, vc, rfl⟩ := sl_form hv
    by_cases hlt : k < la.length ∧ ((la.take k).filter (fun s => s.ok)).length < 60
    · obtain ⟨hlt, hl6⟩ := hlt
      obtain ⟨ba, oa, rfl, ra⟩ := hra (by omega)
      obtain ⟨s, hs⟩ : ∃ s, la[k] = s := ⟨_, rfl⟩
      have hsg : la[k]? = some s := by rw [← hs]; exact List.getElem?_eq_getElem hlt
      have hnext := filter_snoc la k hlt
      rw [hs] at hnext
      have HN := Lib.hid hnext
      clear hnext hs
      generalize (la.take k).filter (fun s => s.ok) = out at *
      have rar := ra.mono (H' := Hs ++ H) fun p hp => List.mem_append_right _ hp
      have q0 := fun x : Cw (Kept wr) => (sp_cells (hw1.cw x) rar hsg).1
      have q1 := fun x : Cw (Kept wr) => (sp_cells (hw1.cw x) rar hsg).2
      have HS := Lib.hid hsg
      clear hsg
      have hd6 : decide ((out.length : Int) < 60) = true := by simp; omega
      by_cases h1 : -1099511627776 ≤ s.lo
      · by_cases h2 : s.lo < s.hi
        · by_cases h3 : s.hi ≤ 1099511627776
          · have hok : Hid (s.ok = true) := by simp [Hid, Sp.ok, h1, h2, h3]
            go_wp2
            refine region_kept (by kernel_rfl) (by kernel_rfl) ?_
            repeat (go_big_quiet_step (fail))
            refine wpQuiet_nil fun w5 hw5 => ?_
            have hw6 := hw1.below hw5
            obtain ⟨a0, a1⟩ := sp_cells hw6 rar HS.out
            clear q0 q1
            go_wp2_with (at_builtin; refine wpList_append_lit (S := S) rfl _ _ 22 rfl Tryz.underlying22 hi hz0 hz1 hz2 rfl (by decide) rfl rfl (by simp) hv hw6 rfl rfl (by unfold maxLen; omega) (by omega) ?_; intro v' w7 Hs' hv' hw7 _)
            refine ⟨⟨k + 1, by omega, by go_num, ?_, ?_⟩, by simp [intOf]; omega⟩
            · rw [HN.out, hok.out]; simp; omega
            · rw [HN.out, hok.out]
              exact ⟨Hs', by rw [if_pos rfl, List.length_append, spc_append]; exact hv', hw7⟩
          · have hok : Hid (s.ok = false) := by simp [Hid, Sp.ok]; omega
            have hd3 : decide (s.hi ≤ 1099511627776) = false := by simpa using h3
            go_wp2
            refine region_kept (by kernel_rfl) (by kernel_rfl) ?_
            repeat (go_big_quiet_step (fail))
            refine wpQuiet_nil fun w5 hw5 => ?_
            have hw6 := hw1.below hw5
            clear q0 q1
            go_wp2
            refine ⟨⟨k + 1, by omega, by go_num, ?_, ?_⟩, by simp [intOf]; omega⟩
            · rw [HN.out, hok.out]; simp; omega
            · rw [HN.out, hok.out]
              exact ⟨Hs, by simpa using hv, hw6⟩
        · have hok : Hid (s.ok = false) := by simp [Hid, Sp.ok]; omega
          have hd3 : decide (s.lo < s.hi) = false := by simpa using h2
          go_wp2
          refine region_kept (by kernel_rfl) (by kernel_rfl) ?_
          repeat (go_big_quiet_step (fail))
          refine wpQuiet_nil fun w5 hw5 => ?_
          have hw6 := hw1.below hw5
          clear q0 q1
          go_wp2
          refine ⟨⟨k + 1, by omega, by go_num, ?_, ?_⟩, by simp [intOf]; omega⟩
          · rw [HN.out, hok.out]; simp; omega
          · rw [HN.out, hok.out]
            exact ⟨Hs, by simpa using hv, hw6⟩
      · have hok : Hid (s.ok = false) := by simp [Hid, Sp.ok]; omega
        have hd3 : decide (-1099511627776 ≤ s.lo) = false := by simpa using h1
        go_wp2
        refine region_kept (by kernel_rfl) (by kernel_rfl) ?_
        repeat (go_big_quiet_step (fail))
        refine wpQuiet_nil fun w5 hw5 => ?_
        have hw6 := hw1.below hw5
        clear q0 q1
        go_wp2
        refine ⟨⟨k + 1, by omega, by go_num, ?_, ?_⟩, by simp [intOf]; omega⟩
        · rw [HN.out, hok.out]; simp; omega
        · rw [HN.out, hok.out]
          exact ⟨Hs, by simpa using hv, hw6⟩
    · have hend : Hid (setsIn la = (la.take k).filter (fun s => s.ok)) := setsIn_end la k (by omega) hl
      have hof := of_calls S wr (Hs ++ H) hw1 _ (setsIn la) (by rw [hend.out]; exact hv.read fun p hp => List.mem_append_left _ hp)
      rw [listE_sets, show ofOut (setsIn la) = setOf la from if_pos (listE_sets la)] at hof
      generalize (la.take k).filter (fun s => s.ok) = out at *
      have HO := Lib.hid hof
      clear hof
      by_cases h1 : k < la.length
      · have h2 : ¬ out.length < 60 := by omega
        have hd6 : decide ((out.length : Int) < 60) = false := by simp; omega
        go_wp2_with (go_at_call 19; refine HO.out.mono ?_; rintro e w9 ⟨v9, Hs9, rfl, hv9, hw9⟩; obtain ⟨vo9, vc9, rfl⟩ := sl_form hv9)
        go_ret
        exact ⟨_, Hs9, rfl, hv9, hw9.sub (List.Sublist.append_left (List.sublist_append_right _ _) _)⟩
      · have h2 : la.length ≤ k := by omega
        go_wp2_with (go_at_call 19; refine HO.out.mono ?_; rintro e w9 ⟨v9, Hs9, rfl, hv9, hw9⟩; obtain ⟨vo9, vc9, rfl⟩ := sl_form hv9)
        go_ret
        exact ⟨_, Hs9, rfl, hv9, hw9.sub (List.Sublist.append_left (List.sublist_append_right _ _) _)⟩

/-- A new list of spans and a yes or no are handed back. -/
def MadeB (S : World) (H : Hp) (out : List Sp) (ok : Bool) (e : Ending) (w' : World) : Prop :=
  ∃ v Hs, e = .returned (.tuple #[v, .bool ok]) ∧ SlR 41 2 v out.length (spc out) Hs ∧ Has S w' (Hs ++ H)










































/-- Is every number of a in b, as the statement asks it? -/
def withinB (a b : List Sp) : Bool := chosenErr (keepB 2) a b == 0 && decide ((chosenOut (keepB 2) a b).length = 0)




































theorem lhas_calls (S w : World) (H : Hp) (hw : Has S w H) (va : Value) (la : List Sp) (ha : SlIn H 2 va la.length (spc la)) (x : Int) :
    Calls Tryz.prog 18 #[va, .int .i64 x] w fun e w' => e = .returned (.bool (isSet la && inB la x)) ∧ Below w.heap.size w w' := by
  have h := has_calls S w H hw va la ha x
  obtain ⟨_, aa, ca, rfl, hca, _⟩ := ha
  cases hs : isSet la with
  | true =>
    rw [hs] at h
    have HH := Lib.hid h
    clear h hs
    generalize inB la x = b at *
    cases b
    all_goals
      go_enter Tryz.func18, Tryz.ntmps18
      go_wp2_with fail
      refine HH.out.mono ?_
      rintro e w1 ⟨rfl, hB⟩
      go_wp2
      go_ret
      exact ⟨rfl, hB⟩
  | false =>
    rw [hs] at h
    have HH := Lib.hid h
    clear h hs
    go_enter Tryz.func18, Tryz.ntmps18
    go_wp2_with fail
    refine HH.out.mono ?_
    rintro e w1 ⟨rfl, hB⟩
    go_wp2
    go_ret
    exact ⟨rfl, hB⟩

end Go.Proofs.YtifeapnhemolgaaGreatDoor.Wk
