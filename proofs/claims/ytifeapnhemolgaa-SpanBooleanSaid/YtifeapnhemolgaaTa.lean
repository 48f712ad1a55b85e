/- SpanTwo: its walk. -/
import Derived.Test.YtifeapnhemolgaaWs
namespace Go.Proofs.Ytifeapnhemolgaa.Wk
open Go Go.RowKit Go.Proofs.Ytifeapnhemolgaa.HL Go.Proofs.Ytifeapnhemolgaa.Pl

theorem chosen_two (kind : Nat) (_ : kind ≤ 2) (a b : List Sp) : chosenOut (keepB kind) a b = twoOut kind a b ∧ chosenErr (keepB kind) a b = twoErr kind a b := by
  unfold chosenOut twoOut chosenErr twoErr
  by_cases h : (isSet a && isSet b) = true
  · rw [Bool.and_eq_true] at h
    have e : chosen (keepB kind) a b = madeL kind a b := chosen_made (edgesL_ends a b) (set_sep h.1).2.2.1 (set_sep h.2).2.2.1
    rw [e]
    exact ⟨rfl, rfl⟩
  · rw [if_neg h, if_neg h, if_neg h, if_neg h]
    exact ⟨rfl, rfl⟩

theorem whole_set : isSet [⟨-1099511627776, 1099511627776⟩] = true := by decide

theorem chosen_rnot (a : List Sp) : chosenOut notB a [] = twoOut 2 [⟨-1099511627776, 1099511627776⟩] a ∧ chosenErr notB a [] = twoErr 2 [⟨-1099511627776, 1099511627776⟩] a := by
  unfold chosenOut twoOut chosenErr twoErr
  rw [whole_set, show isSet [] = true from rfl, Bool.and_true, Bool.true_and]
  by_cases h : isSet a = true
  · have e : chosen notB a [] = madeL 2 [⟨-1099511627776, 1099511627776⟩] a := chosen_not (edgesL_ends a []) (set_sep h).2.2.1
    rw [e]
    exact ⟨rfl, rfl⟩
  · rw [if_neg h, if_neg h, if_neg h, if_neg h]
    exact ⟨rfl, rfl⟩

theorem twoOut_length (kind : Nat) (a b : List Sp) : (twoOut kind a b).length ≤ 128 := by
  unfold twoOut
  split
  · split
    · simp
    · omega
  · simp

theorem alive_below (w : World) : Calls Try.prog 8 #[] w fun e w' => e = .returned (.bool true) ∧ Below w.heap.size w w' :=
  (alive_calls w w (Hall w) (Has.all w)).mono fun _ _ ⟨he, hw⟩ => ⟨he, Has.below_of_all (H := []) hw⟩

set_option maxHeartbeats 6400000 in
set_option maxRecDepth 100000 in
theorem two_walk (W : World) (va vb : Value) (la lb : List Sp) (ha : SlIn (Hall W) 2 va la.length (spc la)) (hb : SlIn (Hall W) 2 vb lb.length (spc lb)) :
    Calls Try.prog 3 #[va, vb] W fun e w' => e = .returned (.bool true) ∧ Below W.heap.size W w' := by
  by_cases hla : la.length ≤ 140
  · by_cases hlb : lb.length ≤ 140
    · have hsubH : ∀ (bd bc : Nat) (cd cc : Array Value) (p : Nat × Obj), p ∈ Hall W → p ∈ (bd, Obj.cells cd 37 (0, 0)) :: (bc, Obj.cells cc 37 (0, 0)) :: Hall W := fun _ _ _ _ p hp => List.mem_cons_of_mem _ (List.mem_cons_of_mem _ hp)
      have hall := Has.all W
      obtain ⟨_, aa, ca, hva, _⟩ := id ha
      obtain ⟨_, ab, cb, hvb, _⟩ := id hb
      subst hva
      subst hvb
      go_enter Try.func3, Try.ntmps3
      go_wp2_with fail
      refine (few_calls _ _ _ _).mono ?_
      rintro e w1 ⟨rfl, hB1⟩
      rw [decide_eq_true hla]
      go_wp2_with fail
      refine (few_calls _ _ _ _).mono ?_
      rintro e w2 ⟨rfl, hB2⟩
      rw [decide_eq_true hlb]
      have hw2 := (hall.below hB1).below hB2
      go_wp2_with fail
      refine (own_calls W w2 _ hw2 _ la ha hla).mono ?_
      rintro e w3 ⟨bc, cc, rfl, hw3, hcc⟩
      go_wp2_with fail
      refine (own_calls W w3 _ hw3 _ lb (hb.mono fun p hp => List.mem_cons_of_mem _ hp) hlb).mono ?_
      rintro e w4 ⟨bd, cd, rfl, hw4, hcd⟩
      have HCC := Lib.hid hcc
      have HCD := Lib.hid hcd
      have hcin := (hcc.row (H := (bd, Obj.cells cd 37 (0, 0)) :: (bc, Obj.cells cc 37 (0, 0)) :: Hall W) (List.mem_cons_of_mem _ List.mem_cons_self)).1
      have hdin := (hcd.row (H := (bd, Obj.cells cd 37 (0, 0)) :: (bc, Obj.cells cc 37 (0, 0)) :: Hall W) List.mem_cons_self).1
      clear hcc hcd
      have hsubH := hsubH bd bc cd cc
      go_wp2
      go_loopw [7] (fun i wr => ∃ k : Nat, k ≤ 2 ∧ i = .int .i64 k ∧ Has W wr ((bd, Obj.cells cd 37 (0, 0)) :: (bc, Obj.cells cc 37 (0, 0)) :: Hall W)) (fun i _ => 2 - (intOf i).toNat)
      case atStart => exact ⟨0, by omega, rfl, hw4⟩
      case round =>
        obtain ⟨k, hk, rfl, hw1⟩ := hrel
        by_cases hlt : k < 2
        · go_wp2_with fail
          have hp0 := union_calls W _ _ hw1 _ _ la lb hcin hdin
          rw [(chosen_two 0 (by omega) la lb).1, (chosen_two 0 (by omega) la lb).2] at hp0
          refine hp0.mono ?_
          clear hp0
          rintro e w11 ⟨x0, Hx0, rfl, hx0, hw11⟩
          obtain ⟨xo0, xc0, rfl⟩ := sl_form hx0
          go_wp2_with fail
          have hr0 := two_calls W _ _ hw11 0 (by omega) 0 rfl _ _ la lb (ha.mono fun p hp => List.mem_append_right _ (hsubH p hp)) (hb.mono fun p hp => List.mem_append_right _ (hsubH p hp))
          refine hr0.mono ?_
          clear hr0
          rintro e w12 ⟨y0, Hy0, rfl, hy0, hw12⟩
          obtain ⟨yo0, yc0, rfl⟩ := sl_form hy0
          have hol0 := twoOut_length 0 la lb
          go_wp2_with fail
          have hs0 := same_calls W _ _ hw12 _ _ (twoOut 0 la lb) (twoOut 0 la lb) (hx0.read fun p hp => List.mem_append_right _ (List.mem_append_left _ hp)) (hy0.read fun p hp => List.mem_append_left _ hp) (by omega)
          rw [decide_eq_true (rfl : twoOut 0 la lb = twoOut 0 la lb)] at hs0
          refine hs0.mono ?_
          clear hs0
          rintro e w13 ⟨rfl, hBw13⟩
          have hw13 := (hw12.below hBw13).right
          generalize twoErr 0 la lb = er0 at *
          go_wp2_with fail
          refine (spoil_calls W _ _ _ _ _ Hx0 hx0 hw13 (by omega)).mono ?_
          rintro e w15 ⟨rfl, hw15⟩
          clear hx0 hy0 hw11 hw12 hw13
          go_wp2_with fail
          have hp1 := intersect_calls W _ _ hw15 _ _ la lb hcin hdin
          rw [(chosen_two 1 (by omega) la lb).1, (chosen_two 1 (by omega) la lb).2] at hp1
          refine hp1.mono ?_
          clear hp1
          rintro e w21 ⟨x1, Hx1, rfl, hx1, hw21⟩
          obtain ⟨xo1, xc1, rfl⟩ := sl_form hx1
          go_wp2_with fail
          have hr1 := two_calls W _ _ hw21 1 (by omega) 1 rfl _ _ la lb (ha.mono fun p hp => List.mem_append_right _ (hsubH p hp)) (hb.mono fun p hp => List.mem_append_right _ (hsubH p hp))
          refine hr1.mono ?_
          clear hr1
          rintro e w22 ⟨y1, Hy1, rfl, hy1, hw22⟩
          obtain ⟨yo1, yc1, rfl⟩ := sl_form hy1
          have hol1 := twoOut_length 1 la lb
          go_wp2_with fail
          have hs1 := same_calls W _ _ hw22 _ _ (twoOut 1 la lb) (twoOut 1 la lb) (hx1.read fun p hp => List.mem_append_right _ (List.mem_append_left _ hp)) (hy1.read fun p hp => List.mem_append_left _ hp) (by omega)
          rw [decide_eq_true (rfl : twoOut 1 la lb = twoOut 1 la lb)] at hs1
          refine hs1.mono ?_
          clear hs1
          rintro e w23 ⟨rfl, hBw23⟩
          have hw23 := (hw22.below hBw23).right
          generalize twoErr 1 la lb = er1 at *
          go_wp2_with fail
          refine (spoil_calls W _ _ _ _ _ Hx1 hx1 hw23 (by omega)).mono ?_
          rintro e w25 ⟨rfl, hw25⟩
          clear hx1 hy1 hw21 hw22 hw23
          go_wp2_with fail
          have hp2 := subtract_calls W _ _ hw25 _ _ la lb hcin hdin
          rw [(chosen_two 2 (by omega) la lb).1, (chosen_two 2 (by omega) la lb).2] at hp2
          refine hp2.mono ?_
          clear hp2
          rintro e w31 ⟨x2, Hx2, rfl, hx2, hw31⟩
          obtain ⟨xo2, xc2, rfl⟩ := sl_form hx2
          go_wp2_with fail
          have hr2 := two_calls W _ _ hw31 2 (by omega) 2 rfl _ _ la lb (ha.mono fun p hp => List.mem_append_right _ (hsubH p hp)) (hb.mono fun p hp => List.mem_append_right _ (hsubH p hp))
          refine hr2.mono ?_
          clear hr2
          rintro e w32 ⟨y2, Hy2, rfl, hy2, hw32⟩
          obtain ⟨yo2, yc2, rfl⟩ := sl_form hy2
          have hol2 := twoOut_length 2 la lb
          go_wp2_with fail
          have hs2 := same_calls W _ _ hw32 _ _ (twoOut 2 la lb) (twoOut 2 la lb) (hx2.read fun p hp => List.mem_append_right _ (List.mem_append_left _ hp)) (hy2.read fun p hp => List.mem_append_left _ hp) (by omega)
          rw [decide_eq_true (rfl : twoOut 2 la lb = twoOut 2 la lb)] at hs2
          refine hs2.mono ?_
          clear hs2
          rintro e w33 ⟨rfl, hBw33⟩
          have hw33 := (hw32.below hBw33).right
          generalize twoErr 2 la lb = er2 at *
          go_wp2_with fail
          refine (spoil_calls W _ _ _ _ _ Hx2 hx2 hw33 (by omega)).mono ?_
          rintro e w35 ⟨rfl, hw35⟩
          clear hx2 hy2 hw31 hw32 hw33
          go_wp2_with fail
          have hp3 := not_calls W _ _ hw35 _ la hcin
          rw [(chosen_rnot la).1, (chosen_rnot la).2] at hp3
          refine hp3.mono ?_
          clear hp3
          rintro e w41 ⟨x3, Hx3, rfl, hx3, hw41⟩
          obtain ⟨xo3, xc3, rfl⟩ := sl_form hx3
          go_wp2_with fail
          have hr3 := rnot_calls W _ _ hw41 _ la (ha.mono fun p hp => List.mem_append_right _ (hsubH p hp))
          refine hr3.mono ?_
          clear hr3
          rintro e w42 ⟨y3, Hy3, rfl, hy3, hw42⟩
          obtain ⟨yo3, yc3, rfl⟩ := sl_form hy3
          have hol3 := twoOut_length 2 [⟨-1099511627776, 1099511627776⟩] la
          go_wp2_with fail
          have hs3 := same_calls W _ _ hw42 _ _ (twoOut 2 [⟨-1099511627776, 1099511627776⟩] la) (twoOut 2 [⟨-1099511627776, 1099511627776⟩] la) (hx3.read fun p hp => List.mem_append_right _ (List.mem_append_left _ hp)) (hy3.read fun p hp => List.mem_append_left _ hp) (by omega)
          rw [decide_eq_true (rfl : twoOut 2 [⟨-1099511627776, 1099511627776⟩] la = twoOut 2 [⟨-1099511627776, 1099511627776⟩] la)] at hs3
          refine hs3.mono ?_
          clear hs3
          rintro e w43 ⟨rfl, hBw43⟩
          have hw43 := (hw42.below hBw43).right
          generalize twoErr 2 [⟨-1099511627776, 1099511627776⟩] la = er3 at *
          go_wp2_with fail
          refine (spoil_calls W _ _ _ _ _ Hx3 hx3 hw43 (by omega)).mono ?_
          rintro e w45 ⟨rfl, hw45⟩
          clear hx3 hy3 hw41 hw42 hw43
          go_wp2
          go_roundw
          case rel => exact ⟨k + 1, by omega, by go_num, hw45⟩
          case measure => simp [intOf]; omega
        · obtain rfl : k = 2 := by omega
          go_wp2_with fail
          refine (kept_calls W wr _ hw1 bc cc la (List.mem_cons_of_mem _ List.mem_cons_self) HCC.out _ (ha.mono hsubH) hla).mono ?_
          rintro e w5 ⟨rfl, hB5⟩
          have hw5 := hw1.below hB5
          go_wp2_with fail
          refine (kept_calls W w5 _ hw5 bd cd lb List.mem_cons_self HCD.out _ (hb.mono hsubH) hlb).mono ?_
          rintro e w6 ⟨rfl, hB6⟩
          have hw6 := hw5.below hB6
          go_wp2_with fail
          refine (alive_below _).mono ?_
          rintro e w7 ⟨rfl, hB7⟩
          have hw7 := hw6.below hB7
          go_wp2
          go_ret
          exact ⟨rfl, Has.below_of_all (H := [_, _]) hw7⟩
    · obtain ⟨_, aa, ca, hva, _⟩ := id ha
      obtain ⟨_, ab, cb, hvb, _⟩ := id hb
      subst hva
      subst hvb
      go_enter Try.func3, Try.ntmps3
      go_wp2_with fail
      refine (few_calls _ _ _ _).mono ?_
      rintro e w1 ⟨rfl, hB1⟩
      rw [decide_eq_true hla]
      go_wp2_with fail
      refine (few_calls _ _ _ _).mono ?_
      rintro e w2 ⟨rfl, hB2⟩
      rw [decide_eq_false hlb]
      go_wp2_with fail
      refine (alive_below _).mono ?_
      rintro e w7 ⟨rfl, hB7⟩
      go_wp2
      go_ret
      exact ⟨rfl, hB1.trans ((hB2.mono hB1.size).trans (hB7.mono (Nat.le_trans hB1.size hB2.size)))⟩
  · obtain ⟨_, aa, ca, hva, _⟩ := id ha
    obtain ⟨_, ab, cb, hvb, _⟩ := id hb
    subst hva
    subst hvb
    go_enter Try.func3, Try.ntmps3
    go_wp2_with fail
    refine (few_calls _ _ _ _).mono ?_
    rintro e w1 ⟨rfl, hB1⟩
    rw [decide_eq_false hla]
    go_wp2_with fail
    refine (alive_below _).mono ?_
    rintro e w7 ⟨rfl, hB7⟩
    go_wp2
    go_ret
    exact ⟨rfl, hB1.trans (hB7.mono hB1.size)⟩

end Go.Proofs.Ytifeapnhemolgaa.Wk
