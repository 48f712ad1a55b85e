/- Union, Intersect, Subtract, Not; the specification's Two and Not; Of. -/
import Derived.Test.YtifeapnhemolgaaWp
import Derived.Test.YtifeapnhemolgaaWm
namespace Go.Proofs.Ytifeapnhemolgaa.Wk
open Go Go.RowKit Go.Proofs.Ytifeapnhemolgaa.HL Go.Proofs.Ytifeapnhemolgaa.Pl

theorem union_calls (S w : World) (H : Hp) (hw : Has S w H) (va vb : Value) (la lb : List Sp) (ha : SlIn H 2 va la.length (spc la)) (hb : SlIn H 2 vb lb.length (spc lb)) :
    Calls Try.prog 10 #[va, vb] w (MadeE S H (chosenOut (keepB 0) la lb) (chosenErr (keepB 0) la lb)) := by
  have h := Lib.hid (chosen_calls S w H hw va vb la lb ha hb 32 (keepB 0) (enters_of Try.func32 (by kernel_rfl) rfl) either_calls)
  obtain ⟨_, aa, ca, rfl, hca, _⟩ := ha
  obtain ⟨_, ab, cb, rfl, hcb, _⟩ := hb
  go_enter Try.func10, Try.ntmps10
  go_wp2_with fail
  refine h.out.mono ?_
  rintro e w1 ⟨v, Hs, rfl, hv, hw1⟩
  obtain ⟨ao, cap, rfl⟩ := sl_form hv
  go_wp2
  go_ret2
  exact ⟨_, Hs, rfl, hv, hw1⟩

theorem intersect_calls (S w : World) (H : Hp) (hw : Has S w H) (va vb : Value) (la lb : List Sp) (ha : SlIn H 2 va la.length (spc la)) (hb : SlIn H 2 vb lb.length (spc lb)) :
    Calls Try.prog 14 #[va, vb] w (MadeE S H (chosenOut (keepB 1) la lb) (chosenErr (keepB 1) la lb)) := by
  have h := Lib.hid (chosen_calls S w H hw va vb la lb ha hb 35 (keepB 1) (enters_of Try.func35 (by kernel_rfl) rfl) both_calls)
  obtain ⟨_, aa, ca, rfl, hca, _⟩ := ha
  obtain ⟨_, ab, cb, rfl, hcb, _⟩ := hb
  go_enter Try.func14, Try.ntmps14
  go_wp2_with fail
  refine h.out.mono ?_
  rintro e w1 ⟨v, Hs, rfl, hv, hw1⟩
  obtain ⟨ao, cap, rfl⟩ := sl_form hv
  go_wp2
  go_ret2
  exact ⟨_, Hs, rfl, hv, hw1⟩

theorem subtract_calls (S w : World) (H : Hp) (hw : Has S w H) (va vb : Value) (la lb : List Sp) (ha : SlIn H 2 va la.length (spc la)) (hb : SlIn H 2 vb lb.length (spc lb)) :
    Calls Try.prog 15 #[va, vb] w (MadeE S H (chosenOut (keepB 2) la lb) (chosenErr (keepB 2) la lb)) := by
  have h := Lib.hid (chosen_calls S w H hw va vb la lb ha hb 36 (keepB 2) (enters_of Try.func36 (by kernel_rfl) rfl) without_calls)
  obtain ⟨_, aa, ca, rfl, hca, _⟩ := ha
  obtain ⟨_, ab, cb, rfl, hcb, _⟩ := hb
  go_enter Try.func15, Try.ntmps15
  go_wp2_with fail
  refine h.out.mono ?_
  rintro e w1 ⟨v, Hs, rfl, hv, hw1⟩
  obtain ⟨ao, cap, rfl⟩ := sl_form hv
  go_wp2
  go_ret2
  exact ⟨_, Hs, rfl, hv, hw1⟩

/-- Not's rule. -/
def notB (a _ : Bool) : Bool := !a

theorem not_calls (S w : World) (H : Hp) (hw : Has S w H) (va : Value) (la : List Sp) (ha : SlIn H 2 va la.length (spc la)) :
    Calls Try.prog 16 #[va] w (MadeE S H (chosenOut notB la []) (chosenErr notB la [])) := by
  have h := Lib.hid (chosen_calls S w H hw va (.slice none 0 0) la [] ha (SlIn.nil _ _) 37 notB (enters_of Try.func37 (by kernel_rfl) rfl) no_calls)
  obtain ⟨_, aa, ca, rfl, hca, _⟩ := ha
  go_enter Try.func16, Try.ntmps16
  go_wp2_with fail
  refine h.out.mono ?_
  rintro e w1 ⟨v, Hs, rfl, hv, hw1⟩
  obtain ⟨ao, cap, rfl⟩ := sl_form hv
  go_wp2
  go_ret2
  exact ⟨_, Hs, rfl, hv, hw1⟩

/-- What the specification's Two hands back. -/
def twoOut (kind : Nat) (a b : List Sp) : List Sp := if isSet a && isSet b then (if 128 < (madeL kind a b).length then [] else madeL kind a b) else []
def twoErr (kind : Nat) (a b : List Sp) : Int := if isSet a && isSet b then (if 128 < (madeL kind a b).length then 8 else 0) else 2

theorem two_calls (S w : World) (H : Hp) (hw : Has S w H) (kind : Nat) (hkd : kind ≤ 2) (ki : Int) (hki : ki = (kind : Int)) (va vb : Value) (la lb : List Sp) (ha : SlIn H 2 va la.length (spc la)) (hb : SlIn H 2 vb lb.length (spc lb)) :
    Calls Try.prog 11 #[.int .i64 ki, va, vb] w (MadeE S H (twoOut kind la lb) (twoErr kind la lb)) := by
  subst hki
  have hva := fun w' (h : Has S w' H) => rset_calls S w' H h va la ha
  have hvb := fun w' (h : Has S w' H) => rset_calls S w' H h vb lb hb
  have hmd := fun w' (h : Has S w' H) (h1 : la.length ≤ 1000) (h2 : lb.length ≤ 1000) => made_calls S w' H h kind hkd va vb la lb ha hb h1 h2
  have hla : isSet la = true → la.length ≤ 128 := fun h => (set_sep h).2.1
  have hlb : isSet lb = true → lb.length ≤ 128 := fun h => (set_sep h).2.1
  have HM := Lib.hid hmd
  obtain ⟨_, aa, ca, rfl, hca, _⟩ := ha
  obtain ⟨_, ab, cb, rfl, hcb, _⟩ := hb
  clear hmd
  cases hsa : isSet la with
  | false =>
    have HT : Hid (twoOut kind la lb = [] ∧ twoErr kind la lb = 2) := by simp [Hid, twoOut, twoErr, hsa]
    rw [hsa] at hva
    have HVA := Lib.hid hva
    clear hva hvb hla hlb hsa
    go_enter Try.func11, Try.ntmps11
    go_wp2_with fail
    refine (HVA.out _ hw).mono ?_
    rintro e w2 ⟨rfl, hB2⟩
    go_wp2
    go_ret2
    rw [HT.out.1, HT.out.2]
    exact MadeE.fail (hw.below hB2)
  | true =>
    cases hsb : isSet lb with
    | false =>
      have HT : Hid (twoOut kind la lb = [] ∧ twoErr kind la lb = 2) := by simp [Hid, twoOut, twoErr, hsb]
      rw [hsa] at hva
      rw [hsb] at hvb
      have HVA := Lib.hid hva
      have HVB := Lib.hid hvb
      clear hva hvb hla hlb hsa hsb
      go_enter Try.func11, Try.ntmps11
      go_wp2_with fail
      refine (HVA.out _ hw).mono ?_
      rintro e w2 ⟨rfl, hB2⟩
      have hw2 := hw.below hB2
      go_wp2_with fail
      refine (HVB.out _ hw2).mono ?_
      rintro e w3 ⟨rfl, hB3⟩
      go_wp2
      go_ret2
      rw [HT.out.1, HT.out.2]
      exact MadeE.fail (hw2.below hB3)
    | true =>
      have HT : Hid (twoOut kind la lb = if 128 < (madeL kind la lb).length then [] else madeL kind la lb) := by simp [Hid, twoOut, hsa, hsb]
      have HU : Hid (twoErr kind la lb = if 128 < (madeL kind la lb).length then 8 else 0) := by simp [Hid, twoErr, hsa, hsb]
      have h1 := hla hsa
      have h2 := hlb hsb
      rw [hsa] at hva
      rw [hsb] at hvb
      have HVA := Lib.hid hva
      have HVB := Lib.hid hvb
      clear hva hvb hla hlb hsa hsb
      go_enter Try.func11, Try.ntmps11
      go_wp2_with fail
      refine (HVA.out _ hw).mono ?_
      rintro e w2 ⟨rfl, hB2⟩
      have hw2 := hw.below hB2
      go_wp2_with fail
      refine (HVB.out _ hw2).mono ?_
      rintro e w3 ⟨rfl, hB3⟩
      have hw3 := hw2.below hB3
      go_wp2_with fail
      refine (HM.out _ hw3 (by omega) (by omega)).mono ?_
      rintro e w4 ⟨v, Hs, rfl, hv, hw4⟩
      generalize madeL kind la lb = out at *
      obtain ⟨ao, cap, rfl⟩ := sl_form hv
      by_cases hbig : 128 < out.length
      · have HO : Hid (twoOut kind la lb = [] ∧ twoErr kind la lb = 8) := by
          unfold Hid
          rw [HT.out, HU.out, if_pos hbig, if_pos hbig]
          exact ⟨rfl, rfl⟩
        go_wp2
        go_ret2
        rw [HO.out.1, HO.out.2]
        exact MadeE.fail hw4.right
      · have HO : Hid (twoOut kind la lb = out ∧ twoErr kind la lb = 0) := by
          unfold Hid
          rw [HT.out, HU.out, if_neg hbig, if_neg hbig]
          exact ⟨rfl, rfl⟩
        go_wp2
        go_ret2
        rw [HO.out.1, HO.out.2]
        exact ⟨_, Hs, rfl, hv, hw4⟩

theorem whole_calls (w : World) : Calls Try.prog 38 #[] w fun e w' => e = .returned (.agg #[.int .i64 (-1099511627776), .int .i64 1099511627776]) ∧ Below w.heap.size w w' := by
  go_enter Try.func38, Try.ntmps38
  go_wp2
  exact bodyPost_ret (v := .agg #[.int .i64 (-1099511627776), .int .i64 1099511627776]) (by simp [results, Try.results38, go_sem]) rfl ⟨rfl, (Below.refl _ _).alloc (Nat.le_refl _) _⟩

theorem rnot_calls (S w : World) (H : Hp) (hw : Has S w H) (va : Value) (la : List Sp) (ha : SlIn H 2 va la.length (spc la)) :
    Calls Try.prog 17 #[va] w (MadeE S H (twoOut 2 [⟨-1099511627776, 1099511627776⟩] la) (twoErr 2 [⟨-1099511627776, 1099511627776⟩] la)) := by
  have HA := Lib.hid ha
  obtain ⟨_, aa, ca, rfl, hca, _⟩ := ha
  go_enter Try.func17, Try.ntmps17
  go_wp2_with fail
  refine (whole_calls _).mono ?_
  rintro e w2 ⟨rfl, hB2⟩
  have hw2 := (hw.below hB2).alloc (.cells #[.int .i64 (-1099511627776), .int .i64 1099511627776] 37)
  have hsl : SlIn ((w2.heap.size, .cells #[.int .i64 (-1099511627776), .int .i64 1099511627776] 37 (0, 0)) :: H) 2 (.slice (some ⟨w2.heap.size, 0, none⟩) 1 1) 1 (spc [⟨-1099511627776, 1099511627776⟩]) :=
    (SlR.made (c := #[.int .i64 (-1099511627776), .int .i64 1099511627776]) (sz := 2) (n := 1) rfl (by unfold maxLen; omega)).read (fun p hp => by rw [List.mem_singleton] at hp; rw [hp]; exact List.mem_cons_self)
  have h := Lib.hid (two_calls S _ _ hw2 2 (by omega) 2 rfl _ _ [⟨-1099511627776, 1099511627776⟩] la hsl (HA.out.mono fun p hp => List.mem_cons_of_mem _ hp))
  clear hsl
  go_wp2_with fail
  refine h.out.mono ?_
  rintro e w1 ⟨v, Hs, rfl, hv, hw1⟩
  obtain ⟨ao, cap, rfl⟩ := sl_form hv
  go_wp2
  go_ret2
  exact ⟨_, Hs, rfl, hv, hw1.sub (List.Sublist.append_left (List.sublist_cons_self _ _) _)⟩

/-- What Of hands back. -/
def ofOut (l : List Sp) : List Sp := if listE l = 0 then madeL 0 l [] else []

theorem listE_cases (l : List Sp) : (listE l = 0 ∧ l.length ≤ 128 ∧ ∀ s, s ∈ l → s.ok = true) ∨ listE l = 2 ∨ listE l = 3 := by
  unfold listE
  by_cases h1 : 128 < l.length
  · rw [if_pos h1]; exact .inr (.inr rfl)
  · rw [if_neg h1]
    by_cases h2 : l.any (fun s => !s.ok) = true
    · rw [if_pos h2]; exact .inr (.inl rfl)
    · rw [if_neg h2]
      refine .inl ⟨rfl, by omega, fun s hs => ?_⟩
      cases hk : s.ok with
      | true => rfl
      | false => exact (h2 (List.any_eq_true.2 ⟨s, hs, by simp [hk]⟩)).elim

/-- Sorted spans, put together, are the specification's set. -/
theorem join_sorted {zs ys : List Sp} (h : SortedLo zs ys) (hok : ∀ s, s ∈ zs → s.ok = true) : joinL ys = madeL 0 zs [] := by
  obtain ⟨h1, h2⟩ := joinL_spec (l := ys) (fun s hs => (ok_bounds (hok s (h.1.mem_iff.1 hs))).2.1) h.2
  obtain ⟨k1, k2⟩ := madeL_spec 0 zs []
  refine h1.unique k1 fun x => ?_
  rw [h2, k2, inB_nil]
  have : inB ys x = inB zs x := by
    rw [Bool.eq_iff_iff, inB_iff, inB_iff]
    constructor
    · rintro ⟨s, hs, g⟩; exact ⟨s, h.1.mem_iff.1 hs, g⟩
    · rintro ⟨s, hs, g⟩; exact ⟨s, h.1.mem_iff.2 hs, g⟩
  rw [this]
  simp [keepB]

theorem of_calls (S w : World) (H : Hp) (hw : Has S w H) (va : Value) (la : List Sp) (ha : SlIn H 2 va la.length (spc la)) :
    Calls Try.prog 27 #[va] w (MadeE S H (ofOut la) (listE la)) := by
  have hl := listed_calls S w H hw va la ha
  have HA := Lib.hid ha
  obtain ⟨_, aa, ca, rfl, hca, _⟩ := ha
  rcases listE_cases la with ⟨he, hlen, hok⟩ | he | he
  · have HO : Hid (ofOut la = madeL 0 la [] ∧ listE la = 0) := by simp [Hid, ofOut, he]
    rw [he] at hl
    have HL := Lib.hid hl
    have HK := Lib.hid hok
    clear hl he hok
    go_enter Try.func27, Try.ntmps27
    go_wp2_with fail
    refine HL.out.mono ?_
    rintro e w1 ⟨rfl, hB⟩
    have hw1 := hw.below hB
    go_wp2_with fail
    refine (clone_calls S w1 H hw1 _ la HA.out (by omega)).mono ?_
    rintro e w2 ⟨v, Hs, rfl, hv, hw2⟩
    obtain ⟨ao, cap, rfl⟩ := sl_form hv
    go_wp2_with fail
    refine (sortsp_calls S w2 H _ _ la Hs hv hw2 (by omega)).mono ?_
    rintro e w3 ⟨rfl, ys, Hs3, hys, hv3, hw3⟩
    have hyl : ys.length = la.length := hys.out.1.length_eq
    have hj := joined_calls S w3 (Hs3 ++ H) hw3 (.slice ao la.length cap) ys (by
      rw [hyl]
      exact hv3.read (fun p hp => List.mem_append_left _ hp)) (by omega)
    rw [join_sorted hys.out HK.out] at hj
    have HJ := Lib.hid hj
    have HY := Lib.hid hyl
    clear hj hyl
    go_wp2_with fail
    refine HJ.out.mono ?_
    rintro e w4 ⟨v4, Hs4, rfl, hv4, hw4⟩
    obtain ⟨ao4, cap4, rfl⟩ := sl_form hv4
    go_wp2
    go_ret2
    rw [HO.out.1, HO.out.2]
    exact ⟨_, Hs4, rfl, hv4, hw4.sub (List.Sublist.append_left (List.sublist_append_right _ _) _)⟩
  all_goals
    have HO : Hid (ofOut la = [] ∧ ∃ x, listE la = x) := ⟨by simp [ofOut, he], _, rfl⟩
    have HE := Lib.hid he
    rw [he] at hl
    have HL := Lib.hid hl
    clear hl he
    go_enter Try.func27, Try.ntmps27
    go_wp2_with fail
    refine HL.out.mono ?_
    rintro e w1 ⟨rfl, hB⟩
    go_wp2
    go_ret2
    rw [HO.out.1, HE.out]
    exact MadeE.fail (hw.below hB)

end Go.Proofs.Ytifeapnhemolgaa.Wk
