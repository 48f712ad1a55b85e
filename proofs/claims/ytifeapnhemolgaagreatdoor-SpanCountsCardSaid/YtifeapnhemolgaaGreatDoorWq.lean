/- Union, Intersect, Subtract, Not; the specification's Two and Not; Of. -/
import Derived.Test.YtifeapnhemolgaaGreatDoorWp
import Derived.Test.YtifeapnhemolgaaGreatDoorWm
namespace Go.Proofs.YtifeapnhemolgaaGreatDoor.Wk
open Go Go.RowKit Go.Proofs.YtifeapnhemolgaaGreatDoor.HL Go.Proofs.YtifeapnhemolgaaGreatDoor.Pl

theorem union_calls (S w : World) (H : Hp) (hw : Has S w H) (va vb : Value) (la lb : List Sp) (ha : SlIn H 2 va la.length (spc la)) (hb : SlIn H 2 vb lb.length (spc lb)) :
    Calls Tryz.prog 13 #[va, vb] w (MadeE S H (chosenOut (keepB 0) la lb) (chosenErr (keepB 0) la lb)) := by
  have h := Lib.hid (chosen_calls S w H hw va vb la lb ha hb 32 (keepB 0) (enters_of Tryz.func32 (by kernel_rfl) rfl) either_calls)
  obtain ⟨_, aa, ca, rfl, hca, _⟩ := ha
  obtain ⟨_, ab, cb, rfl, hcb, _⟩ := hb
  go_enter Tryz.func13, Tryz.ntmps13
  go_wp2_with fail
  refine h.out.mono ?_
  rintro e w1 ⟨v, Hs, rfl, hv, hw1⟩
  obtain ⟨ao, cap, rfl⟩ := sl_form hv
  go_wp2
  go_ret2
  exact ⟨_, Hs, rfl, hv, hw1⟩

theorem intersect_calls (S w : World) (H : Hp) (hw : Has S w H) (va vb : Value) (la lb : List Sp) (ha : SlIn H 2 va la.length (spc la)) (hb : SlIn H 2 vb lb.length (spc lb)) :
    Calls Tryz.prog 14 #[va, vb] w (MadeE S H (chosenOut (keepB 1) la lb) (chosenErr (keepB 1) la lb)) := by
  have h := Lib.hid (chosen_calls S w H hw va vb la lb ha hb 33 (keepB 1) (enters_of Tryz.func33 (by kernel_rfl) rfl) both_calls)
  obtain ⟨_, aa, ca, rfl, hca, _⟩ := ha
  obtain ⟨_, ab, cb, rfl, hcb, _⟩ := hb
  go_enter Tryz.func14, Tryz.ntmps14
  go_wp2_with fail
  refine h.out.mono ?_
  rintro e w1 ⟨v, Hs, rfl, hv, hw1⟩
  obtain ⟨ao, cap, rfl⟩ := sl_form hv
  go_wp2
  go_ret2
  exact ⟨_, Hs, rfl, hv, hw1⟩















/-- Not's rule. -/
def notB (a _ : Bool) : Bool := !a














/-- What the specification's Two hands back. -/
def twoOut (kind : Nat) (a b : List Sp) : List Sp := if isSet a && isSet b then (if 128 < (madeL kind a b).length then [] else madeL kind a b) else []
def twoErr (kind : Nat) (a b : List Sp) : Int := if isSet a && isSet b then (if 128 < (madeL kind a b).length then 8 else 0) else 2




















































































































/-- What Of hands back. -/
def ofOut (l : List Sp) : List Sp := if listE l = 0 then madeL 0 l [] else []

theorem listE_cases (l : List Sp) : (listE l = 0 ∧ l.length ≤ 128 ∧ ∀ s, s ∈ l → s.ok = true) ∨ listE l = 2 ∨ listE l = 3 := by
  unfold listE
  by_cases h1 : 128 < l.length
  · rw [if_pos h1]; exact .inr (.inr rfl)
  · rw [if_neg h1]
    by_cases h2 : l.any (fun s => !s.ok) = true
    · rw [if_pos h2]; exact .inr (.inl rfl)
    · rw [if_neg h2]
      refine .inl ⟨rfl, by omega, fun s hs => ?_⟩
      cases hk : s.ok with
      | true => rfl
      | false => exact (h2 (List.any_eq_true.2 ⟨s, hs, by simp [hk]⟩)).elim

/-- Sorted spans, put together, are the specification's set. -/
theorem join_sorted {zs ys : List Sp} (h : SortedLo zs ys) (hok : ∀ s, s ∈ zs → s.ok = true) : joinL ys = madeL 0 zs [] := by
  obtain ⟨h1, h2⟩ := joinL_spec (l := ys) (fun s hs => (ok_bounds (hok s (h.1.mem_iff.1 hs))).2.1) h.2
  obtain ⟨k1, k2⟩ := madeL_spec 0 zs []
  refine h1.unique k1 fun x => ?_
  rw [h2, k2, inB_nil]
  have : inB ys x = inB zs x := by
    rw [Bool.eq_iff_iff, inB_iff, inB_iff]
    constructor
    · rintro ⟨s, hs, g⟩; exact ⟨s, h.1.mem_iff.1 hs, g⟩
    · rintro ⟨s, hs, g⟩; exact ⟨s, h.1.mem_iff.2 hs, g⟩
  rw [this]
  simp [keepB]

theorem of_calls (S w : World) (H : Hp) (hw : Has S w H) (va : Value) (la : List Sp) (ha : SlIn H 2 va la.length (spc la)) :
    Calls Tryz.prog 19 #[va] w (MadeE S H (ofOut la) (listE la)) := by
  have hl := listed_calls S w H hw va la ha
  have HA := Lib.hid ha
  obtain ⟨_, aa, ca, rfl, hca, _⟩ := ha
  rcases listE_cases la with ⟨he, hlen, hok⟩ | he | he
  · have HO : Hid (ofOut la = madeL 0 la [] ∧ listE la = 0) := by simp [Hid, ofOut, he]
    rw [he] at hl
    have HL := Lib.hid hl
    have HK := Lib.hid hok
    clear hl he hok
    go_enter Tryz.func19, Tryz.ntmps19
    go_wp2_with fail
    refine HL.out.mono ?_
    rintro e w1 ⟨rfl, hB⟩
    have hw1 := hw.below hB
    go_wp2_with fail
    refine (clone_calls S w1 H hw1 _ la HA.out (by omega)).mono ?_
    rintro e w2 ⟨v, Hs, rfl, hv, hw2⟩
    obtain ⟨ao, cap, rfl⟩ := sl_form hv
    go_wp2_with fail
    refine (sortsp_calls S w2 H _ _ la Hs hv hw2 (by omega)).mono ?_
    rintro e w3 ⟨rfl, ys, Hs3, hys, hv3, hw3⟩
    have hyl : ys.length = la.length := hys.out.1.length_eq
    have hj := joined_calls S w3 (Hs3 ++ H) hw3 (.slice ao la.length cap) ys (by
      rw [hyl]
      exact hv3.read (fun p hp => List.mem_append_left _ hp)) (by omega)
    rw [join_sorted hys.out HK.out] at hj
    have HJ := Lib.hid hj
    have HY := Lib.hid hyl
    clear hj hyl
    go_wp2_with fail
    refine HJ.out.mono ?_
    rintro e w4 ⟨v4, Hs4, rfl, hv4, hw4⟩
    obtain ⟨ao4, cap4, rfl⟩ := sl_form hv4
    go_wp2
    go_ret2
    rw [HO.out.1, HO.out.2]
    exact ⟨_, Hs4, rfl, hv4, hw4.sub (List.Sublist.append_left (List.sublist_append_right _ _) _)⟩
  all_goals
    have HO : Hid (ofOut la = [] ∧ ∃ x, listE la = x) := ⟨by simp [ofOut, he], _, rfl⟩
    have HE := Lib.hid he
    rw [he] at hl
    have HL := Lib.hid hl
    clear hl he
    go_enter Tryz.func19, Tryz.ntmps19
    go_wp2_with fail
    refine HL.out.mono ?_
    rintro e w1 ⟨rfl, hB⟩
    go_wp2
    go_ret2
    rw [HO.out.1, HE.out]
    exact MadeE.fail (hw.below hB)

end Go.Proofs.YtifeapnhemolgaaGreatDoor.Wk
