/- SpanTexts: its walk. -/
import Derived.Test.YtifeapnhemolgaaGreatDoorUk
import Derived.Test.YtifeapnhemolgaaGreatDoorTa
namespace Go.Proofs.YtifeapnhemolgaaGreatDoor.Wk
open Go Go.RowKit Go.Proofs.YtifeapnhemolgaaGreatDoor.HL Go.Proofs.YtifeapnhemolgaaGreatDoor.Pl

theorem form_length (l : List UInt8) : (formO l).length ≤ 128 := by
  cases h : formL l with
  | none => rw [(form_none h).1]; simp
  | some o => rw [(form_is h).1]; exact isSet_len (formL_some h).1

set_option maxHeartbeats 6400000 in
set_option maxRecDepth 100000 in
theorem texts_walk (W : World) (hL : LibOk W (Hall W)) (va : Value) (la : List Sp) (ha : SlIn (Hall W) 2 va la.length (spc la)) (s : ByteArray) (hs : s.size ≤ 9223372036854775807) :
    Calls Tryz.prog 3 #[va, .string s] W fun e w' => e = .returned (.bool true) ∧ Below W.heap.size W w' := by
  have hG : ∀ (X : Hp) w', Has W w' (X ++ Hall W) → Below W.heap.size W w' := fun X w' h => h.below_of_all
  have HG := Lib.hid hG
  clear hG
  have hall := Has.all W
  have ha0 := ha
  obtain ⟨_, aa, ca, rfl, _⟩ := ha
  go_enter Tryz.func3, Tryz.ntmps3
  go_wp2_with fail
  refine (few_calls _ _ _ _).mono ?_
  rintro e w1 ⟨rfl, hB1⟩
  by_cases hla : la.length ≤ 140
  · rw [decide_eq_true hla]
    by_cases hsl : s.size ≤ 6000
    · have hw1 := hall.below hB1
      have hsi : ¬ (6000 : Int) < s.size := by omega
      clear hall hB1
      have hT := text_calls W _ (Hall W) hw1 hL.tab _ la ha0
      have hR := fun w2 (hw2 : Has W w2 (Hall W)) => rtext_calls W w2 (Hall W) hw2 _ la ha0
      generalize (if isSet la = true then (0 : Int) else 2) = e1 at hT hR
      generalize textV la = t1 at hT hR
      have HT := Lib.hid hT
      have HR := Lib.hid hR
      clear hT hR
      go_wp2_with fail
      refine HT.out.mono ?_
      rintro e w2 ⟨rfl, hw2⟩
      go_wp2_with fail
      refine (HR.out _ hw2).mono ?_
      rintro e w3 ⟨rfl, hw3⟩
      go_wp2_with fail
      refine (parse_calls W _ (Hall W) hw3 hL s (by omega)).mono ?_
      rintro e w4 ⟨v4, H4, rfl, hv4, hw4⟩
      obtain ⟨o4, c4, rfl⟩ := sl_form hv4
      go_wp2_with fail
      refine (rparse_calls W _ (H4 ++ Hall W) hw4 s hsl).mono ?_
      rintro e w5 ⟨v5, H5, rfl, hv5, hw5⟩
      obtain ⟨o5, c5, rfl⟩ := sl_form hv5
      have hsm := same_calls W _ _ hw5 _ _ (formO s.data.toList) (formO s.data.toList) (hv4.read fun p hp => List.mem_append_right _ (List.mem_append_left _ hp)) (hv5.read fun p hp => List.mem_append_left _ hp) (by have := form_length s.data.toList; omega)
      rw [decide_eq_true (rfl : formO s.data.toList = formO s.data.toList)] at hsm
      generalize formO s.data.toList = o at *
      generalize formE s.data.toList = e2 at *
      go_wp2_with fail
      refine hsm.mono ?_
      rintro e w6 ⟨rfl, hB6⟩
      have hw6 := hw5.below hB6
      clear hB6 hsm
      go_wp2_with fail
      refine (alive_below _).mono ?_
      rintro e w7 ⟨rfl, hB7⟩
      have hw7 := hw6.below hB7
      rw [← List.append_assoc] at hw7
      go_wp2
      go_ret
      exact ⟨rfl, HG.out _ _ hw7⟩
    · have t1 : (6000 : Int) < s.size := by omega
      have hw1 := hall.below hB1
      go_wp2_with fail
      refine (alive_below _).mono ?_
      rintro e w2 ⟨rfl, hB2⟩
      go_wp2
      go_ret
      exact ⟨rfl, HG.out [] _ (hw1.below hB2)⟩
  · rw [decide_eq_false hla]
    have hw1 := hall.below hB1
    go_wp2_with fail
    refine (alive_below _).mono ?_
    rintro e w2 ⟨rfl, hB2⟩
    go_wp2
    go_ret
    exact ⟨rfl, HG.out [] _ (hw1.below hB2)⟩

end Go.Proofs.YtifeapnhemolgaaGreatDoor.Wk
