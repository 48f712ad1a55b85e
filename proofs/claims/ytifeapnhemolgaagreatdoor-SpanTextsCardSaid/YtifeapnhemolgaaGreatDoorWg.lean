/- Ascending spans with those put together that touch. -/
import Derived.Test.YtifeapnhemolgaaGreatDoorWf
namespace Go.Proofs.YtifeapnhemolgaaGreatDoor.Wk
open Go Go.RowKit Go.Proofs.YtifeapnhemolgaaGreatDoor.HL Go.Proofs.YtifeapnhemolgaaGreatDoor.Pl

theorem slr_form {E : TypeId} {sz n : Nat} {v : Value} {xs : List Value} {Hs : Hp} (h : SlR E sz v n xs Hs) : ∃ ao cap, v = .slice ao n cap := by
  obtain ⟨_, ⟨rfl, rfl, _⟩ | ⟨b, off, cap, c, rfl, _⟩⟩ := h
  · exact ⟨_, _, rfl⟩
  · exact ⟨_, _, rfl⟩

theorem spc_set (l : List Sp) (k : Nat) (s : Sp) (h : l[k]? = some s) (x : Int) : (spc l).set (k * 2 + 1) (.int .i64 x) = spc (l.set k ⟨s.lo, x⟩) := by
  induction l generalizing k with
  | nil => simp at h
  | cons t l ih =>
    cases k with
    | zero => simp at h; subst h; simp [spc]
    | succ k =>
      have e := ih k (by simpa using h)
      have e1 : ∀ (a : Sp) (m : List Sp), spc (a :: m) = .int .i64 a.lo :: .int .i64 a.hi :: spc m := fun a m => by simp [spc]
      rw [List.set_cons_succ, e1, e1, ← e, show (k + 1) * 2 + 1 = (k * 2 + 1) + 1 + 1 by omega]
      rfl

theorem joinStep_set {out : List Sp} {s p : Sp} (hp : out[out.length - 1]? = some p) (h : s.lo ≤ p.hi) : joinStep out s = out.set (out.length - 1) ⟨p.lo, max p.hi s.hi⟩ := by
  have hl : out.getLast? = some p := by rw [List.getLast?_eq_getElem?]; exact hp
  obtain ⟨ys, rfl⟩ := List.getLast?_eq_some_iff.1 hl
  unfold joinStep
  rw [hl]
  simp [h]

theorem joinStep_new {out : List Sp} {s p : Sp} (hp : out[out.length - 1]? = some p) (h : p.hi < s.lo) : joinStep out s = out ++ [s] := by
  have hl : out.getLast? = some p := by rw [List.getLast?_eq_getElem?]; exact hp
  unfold joinStep
  rw [hl]
  simp
  omega

set_option maxHeartbeats 3200000 in
set_option maxRecDepth 100000 in
theorem joined_calls (S w : World) (H : Hp) (hw : Has S w H) (va : Value) (la : List Sp) (ha : SlIn H 2 va la.length (spc la)) (hm : la.length ≤ 100000) :
    Calls Tryz.prog 40 #[va] w fun e w' => ∃ v Hs, e = .returned v ∧ SlR 41 2 v (joinL la).length (spc (joinL la)) Hs ∧ Has S w' (Hs ++ H) := by
  obtain ⟨_, aa, ca, rfl, hca, hra⟩ := ha
  obtain ⟨i0, hi, hz0, hz1, hz2⟩ := info_parts infoSp
  go_enter Tryz.func40, Tryz.ntmps40
  go_wp2
  go_loopw [3, 9] (fun v i wr => ∃ k : Nat, k ≤ la.length ∧ i = .int .i64 k ∧ ∃ out Hs, Hid (out = (la.take k).foldl joinStep []) ∧ out.length ≤ k ∧ SlR 41 2 v out.length (spc out) Hs ∧ Has S wr (Hs ++ H)) (fun _ i _ => la.length - (intOf i).toNat)
  case atStart => exact ⟨0, Nat.zero_le _, rfl, [], [], rfl, Nat.le_refl _, SlR.nil _ _, hw⟩
  case round =>
    obtain ⟨k, hk, rfl, out, Hs, ho, hlen, hv, hw1⟩ := hrel
    by_cases hlt : k < la.length
    · obtain ⟨ba, oa, rfl, ra⟩ := hra (by omega)
      obtain ⟨a0, a1⟩ := sp_cells hw1 (ra.mono fun p hp => List.mem_append_right _ hp) (List.getElem?_eq_getElem hlt)
      have hw2 := hw1.alloc (.cells #[.int .i64 la[k].lo, .int .i64 la[k].hi] 41)
      have hstep : Hid (joinStep out la[k] = (la.take (k + 1)).foldl joinStep []) := by
        unfold Hid
        rw [List.take_succ_eq_append_getElem hlt, List.foldl_append, ← ho.out]
        rfl
      by_cases h0 : 0 < out.length
      · obtain ⟨p, hp⟩ : ∃ p, out[out.length - 1]? = some p := ⟨_, List.getElem?_eq_getElem (by omega)⟩
        obtain ⟨b, off, cap, rfl, hcap, hr, hst⟩ := hv.at h0
        have pl := fun x : Cw (Kept (wr.alloc (.cells #[.int .i64 la[k].lo, .int .i64 la[k].hi] 41))) => (sp_cells (hw2.cw x) (hr.mono fun q hq => List.mem_cons_of_mem _ (List.mem_append_left _ hq)) hp).2
        have d0 := kept_cell (new_cell wr #[.int .i64 la[k].lo, .int .i64 la[k].hi] 41 0 rfl)
        have Hp := Lib.hid hp
        clear hp
        by_cases hle : la[k].lo ≤ p.hi
        · go_wp2
          refine region_kept (by kernel_rfl) (by kernel_rfl) ?_
          repeat (go_big_quiet_step (fail))
          refine wpQuiet_nil fun w5 hw5 => ?_
          have hw6 := hw2.below hw5
          have c0 := hw6.cell (o := 0) List.mem_cons_self rfl
          have c1 := hw6.cell (o := 1) List.mem_cons_self rfl
          clear pl d0
          have q1 := (sp_cells hw6 (hr.mono fun q hq => List.mem_cons_of_mem _ (List.mem_append_left _ hq)) Hp.out).2
          obtain ⟨hfz, hset⟩ := hst S w5 ((wr.heap.size, .cells #[.int .i64 la[k].lo, .int .i64 la[k].hi] 41 (0, 0)) :: H) (hw6.perm List.perm_middle.symm)
          have fz := hfz (off + (out.length - 1) * 2 + 1)
          obtain ⟨Hs', hv', hw7⟩ := hset ((out.length - 1) * 2 + 1) (.int .i64 (max p.hi la[k].hi)) (by omega)
          rw [← Nat.add_assoc] at hw7
          go_wp2
          have hS : Has S w5 ((wr.heap.size, .cells #[.int .i64 la[k].lo, .int .i64 la[k].hi] 41 (0, 0)) :: (Hs ++ H)) := hw6
          haveI hne := clsTrue (S := fun w' => Has S w' ((wr.heap.size, .cells #[.int .i64 la[k].lo, .int .i64 la[k].hi] 41 (0, 0)) :: (Hs ++ H))) hS
          have x0 := fun x : Cw (cls true (fun w' => Has S w' ((wr.heap.size, .cells #[.int .i64 la[k].lo, .int .i64 la[k].hi] 41 (0, 0)) :: (Hs ++ H)))) => (x.h rfl).cell (o := 0) List.mem_cons_self rfl
          have x1 := fun x : Cw (cls true (fun w' => Has S w' ((wr.heap.size, .cells #[.int .i64 la[k].lo, .int .i64 la[k].hi] 41 (0, 0)) :: (Hs ++ H)))) => (x.h rfl).cell (o := 1) List.mem_cons_self rfl
          have x2 := fun x : Cw (cls true (fun w' => Has S w' ((wr.heap.size, .cells #[.int .i64 la[k].lo, .int .i64 la[k].hi] 41 (0, 0)) :: (Hs ++ H)))) => (sp_cells (x.h rfl) (hr.mono fun q hq => List.mem_cons_of_mem _ (List.mem_append_left _ hq)) Hp.out).2
          refine held_start (fun w' => Has S w' ((wr.heap.size, .cells #[.int .i64 la[k].lo, .int .i64 la[k].hi] 41 (0, 0)) :: (Hs ++ H))) [14] (by kernel_rfl) ?_
          refine held_seg true [true,true,true,true,true,true,true,true,true,true,true,true] 3 (by kernel_rfl) hS.drew ?_
          simp only [pickB]
          repeat (go_big_quiet_step (fail))
          refine wpQuiet_nil ?_
          refine held_seg false [false,false,false,false,false,false,false,false,false,false,false,false,true,true] 1 (by kernel_rfl) hS.drew ?_
          simp only [pickB]
          repeat (go_big_quiet_step (fail))
          refine wpQuiet_nil ?_
          refine held_fin 14 (by kernel_rfl) rfl rfl (by simp) fun K hK => ?_
          clear x0 x1 x2
          go_simp
          refine hK _ _ (held_done (by kernel_rfl) ?_ _)
          go_wp2
          have e : joinStep out la[k] = out.set (out.length - 1) ⟨p.lo, max p.hi la[k].hi⟩ := joinStep_set Hp.out hle
          refine ⟨⟨k + 1, by omega, by go_num, joinStep out la[k], Hs', hstep, ?_, ?_, ?_⟩, by simp [intOf]; omega⟩
          · rw [e]; simp <;> omega
          · rw [e, List.length_set, ← spc_set _ _ _ Hp.out]; exact hv'
          · rw [show (if p.hi < la[k].hi then la[k].hi else p.hi) = max p.hi la[k].hi by split <;> omega]
            exact (hw7.sub (List.Sublist.append_left (List.sublist_cons_self _ _) _)).drew
        · go_wp2
          refine region_kept (by kernel_rfl) (by kernel_rfl) ?_
          repeat (go_big_quiet_step (fail))
          refine wpQuiet_nil fun w5 hw5 => ?_
          have hw6 := hw2.below hw5
          have c0 := hw6.cell (o := 0) List.mem_cons_self rfl
          have c1 := hw6.cell (o := 1) List.mem_cons_self rfl
          go_wp2_with (at_builtin; refine wpList_append_lit (S := S) rfl _ _ 22 rfl Tryz.underlying22 hi hz0 hz1 hz2 rfl (by decide) rfl rfl (by simp) hv hw6.tail rfl rfl (by unfold maxLen; omega) (by omega) ?_; intro v' w7 Hs' hv' hw7 _)
          have e : joinStep out la[k] = out ++ [la[k]] := joinStep_new Hp.out (by omega)
          refine ⟨⟨k + 1, by omega, by go_num, joinStep out la[k], Hs', hstep, ?_, ?_, hw7⟩, by simp [intOf]; omega⟩
          · rw [e]; simp <;> omega
          · rw [e, spc_append, List.length_append]; exact hv'
      · obtain rfl : out = [] := List.eq_nil_of_length_eq_zero (by omega)
        obtain ⟨ao, cap, rfl⟩ := slr_form hv
        go_wp2
        refine region_kept (by kernel_rfl) (by kernel_rfl) ?_
        repeat (go_big_quiet_step (fail))
        refine wpQuiet_nil fun w5 hw5 => ?_
        have hw6 := hw2.below hw5
        have c0 := hw6.cell (o := 0) List.mem_cons_self rfl
        have c1 := hw6.cell (o := 1) List.mem_cons_self rfl
        go_wp2_with (at_builtin; refine wpList_append_lit (S := S) rfl _ _ 22 rfl Tryz.underlying22 hi hz0 hz1 hz2 rfl (by decide) rfl rfl (by simp) hv hw6.tail rfl rfl (by unfold maxLen; omega) (by omega) ?_; intro v' w7 Hs' hv' hw7 _)
        have e : joinStep [] la[k] = [] ++ [la[k]] := rfl
        refine ⟨⟨k + 1, by omega, by go_num, joinStep [] la[k], Hs', hstep, ?_, ?_, hw7⟩, by simp [intOf]; omega⟩
        · rw [e]; simp <;> omega
        · rw [e, spc_append, List.length_append]; exact hv'
    · obtain rfl : k = la.length := by omega
      have hl : Hid (out = joinL la) := by
        have := ho.out
        rw [List.take_length] at this
        exact this
      go_wp2
      go_ret
      exact ⟨_, Hs, rfl, by rw [← hl.out]; exact hv, hw1⟩

end Go.Proofs.YtifeapnhemolgaaGreatDoor.Wk
