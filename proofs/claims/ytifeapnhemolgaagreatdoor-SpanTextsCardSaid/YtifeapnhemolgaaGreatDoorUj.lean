/- The reference's Text: its walk. -/
import Derived.Test.YtifeapnhemolgaaGreatDoorUi
import Derived.Test.YtifeapnhemolgaaGreatDoorUb
namespace Go.Proofs.YtifeapnhemolgaaGreatDoor.Wk
open Go Go.RowKit Go.Proofs.YtifeapnhemolgaaGreatDoor.HL Go.Proofs.YtifeapnhemolgaaGreatDoor.Pl Go.Lib

/-- The first k words with blanks between. -/
def joinK (la : List Sp) (k : Nat) : List UInt8 := join ((la.take k).map wordL) [32]

theorem join_snoc (w : List UInt8) : ∀ ws : List (List UInt8), join (ws ++ [w]) [32] = join ws [32] ++ (if ws = [] then [] else [32]) ++ w
  | [] => by simp [join, List.intercalate]
  | v :: ws => by
    rw [List.cons_append, Pl.join_cons, Pl.join_cons, join_snoc w ws]
    cases ws with
    | nil => simp [join, List.intercalate]
    | cons a b => simp

theorem joinK_zero (la : List Sp) : joinK la 0 = [] := by simp [joinK, join, List.intercalate]

theorem joinK_one (la : List Sp) (h : 0 < la.length) : joinK la 1 = wordL la[0] := by
  unfold joinK
  rw [List.take_succ_eq_append_getElem h]
  simp [join, List.intercalate]

theorem joinK_succ (la : List Sp) (k : Nat) (hk : 0 < k) (h : k < la.length) : joinK la (k + 1) = joinK la k ++ 32 :: wordL la[k] := by
  unfold joinK
  rw [List.take_succ_eq_append_getElem h, List.map_append, List.map_cons, List.map_nil, join_snoc, if_neg (by
    intro e
    have := congrArg List.length e
    rw [List.length_map, List.length_take] at this
    simp only [List.length_nil] at this
    omega)]
  simp

theorem joinK_length {la : List Sp} (ha : isSet la = true) (k : Nat) (hk : k ≤ la.length) : (joinK la k).length ≤ 4000 := by
  have h1 := join_length ((la.take k).map wordL) 30 fun w hw => by
    obtain ⟨s, hs, rfl⟩ := List.mem_map.1 hw
    exact word_length s (isSet_ok ha s (List.mem_of_mem_take hs))
  have h2 := isSet_len ha
  rw [List.length_map, List.length_take] at h1
  unfold joinK
  omega

theorem joinK_all {la : List Sp} (h : la ≠ []) : joinK la la.length = textL la := by
  unfold joinK textL
  rw [List.take_length, if_neg h]

theorem word_first (s : Sp) : (⟨(itoa s.lo).toArray⟩ ++ ⟨#[46, 46]⟩ ++ ⟨(itoa s.hi).toArray⟩ : ByteArray) = ⟨(wordL s).toArray⟩ := by
  apply ByteArray.ext
  simp [wordL]

theorem word_next (l : List UInt8) (s : Sp) : (⟨l.toArray⟩ ++ ⟨#[32]⟩ ++ ⟨(itoa s.lo).toArray⟩ ++ ⟨#[46, 46]⟩ ++ ⟨(itoa s.hi).toArray⟩ : ByteArray) = ⟨(l ++ 32 :: wordL s).toArray⟩ := by
  apply ByteArray.ext
  simp [wordL]

set_option maxHeartbeats 3200000 in
set_option maxRecDepth 100000 in
theorem rtext_calls (S w : World) (H : Hp) (hw : Has S w H) (va : Value) (la : List Sp) (ha : SlIn H 2 va la.length (spc la)) :
    Calls Tryz.prog 8 #[va] w fun e w' => e = .returned (.tuple #[.string ⟨(textV la).toArray⟩, .int .i64 (if isSet la = true then 0 else 2)]) ∧ Has S w' H := by
  have hv := rset_calls S w H hw va la ha
  obtain ⟨_, aa, ca, rfl, hca, hra⟩ := ha
  cases hsa : isSet la with
  | false =>
    have HT : Hid (textV la = []) := by simp [Hid, textV, hsa]
    rw [hsa] at hv
    have HV := Lib.hid hv
    clear hv hsa
    go_enter Tryz.func8, Tryz.ntmps8
    go_wp2_with fail
    refine HV.out.mono ?_
    rintro e w2 ⟨rfl, hB2⟩
    go_wp2
    go_ret2
    rw [HT.out]
    exact ⟨rfl, hw.below hB2⟩
  | true =>
    have hl128 := isSet_len hsa
    have HT : Hid (textV la = textL la) := by simp [Hid, textV, hsa]
    have HK := Lib.hid (isSet_ok hsa)
    have HLN := Lib.hid (fun k hk => joinK_length hsa k hk)
    rw [hsa] at hv
    have HV := Lib.hid hv
    clear hv hsa
    by_cases hn : la = []
    · subst hn
      go_enter Tryz.func8, Tryz.ntmps8
      go_wp2_with fail
      refine HV.out.mono ?_
      rintro e w2 ⟨rfl, hB2⟩
      go_wp2
      go_ret2
      rw [HT.out]
      exact ⟨rfl, hw.below hB2⟩
    · have hpos : 0 < la.length := List.length_pos_iff.2 hn
      have hne0 : ((la.length : Int) == 0) = false := by simp [hn]
      have HN := Lib.hid hn
      clear hn
      go_enter Tryz.func8, Tryz.ntmps8
      go_wp2_with fail
      refine HV.out.mono ?_
      rintro e w2 ⟨rfl, hB2⟩
      have hw2 := hw.below hB2
      go_wp2
      go_loopw [4, 5] (fun v c wr => ∃ k : Nat, k ≤ la.length ∧ c = .int .i64 k ∧ v = .string ⟨(joinK la k).toArray⟩ ∧ Has S wr H) (fun _ c _ => la.length - (intOf c).toNat)
      case atStart => exact ⟨0, Nat.zero_le _, rfl, by rw [joinK_zero], hw2⟩
      case round =>
        obtain ⟨k, hk, rfl, rfl, hwr⟩ := hrel
        by_cases hlt : k < la.length
        · obtain ⟨b, o, rfl, ra⟩ := hra (by omega)
          obtain ⟨a0, a1⟩ := sp_cells hwr ra (List.getElem?_eq_getElem hlt)
          obtain ⟨k1, k2, k3⟩ := ok_bounds (HK.out la[k] (List.getElem_mem hlt))
          have hjl := HLN.out k hk
          by_cases h0 : k = 0
          · have t0 : ¬ (0 : Int) < k := by omega
            have hnext : ⟨(joinK la (k + 1)).toArray⟩ = (⟨(joinK la k).toArray⟩ ++ ⟨(itoa la[k].lo).toArray⟩ ++ ⟨#[46, 46]⟩ ++ ⟨(itoa la[k].hi).toArray⟩ : ByteArray) := by
              subst h0
              rw [joinK_zero, joinK_one la hlt, ← word_first]
              apply ByteArray.ext
              simp
            have HX := Lib.hid hnext
            clear hnext h0
            generalize la[k] = s at *
            have l1 := itoa_length s.lo (by omega) (by omega)
            have l2 := itoa_length s.hi (by omega) (by omega)
            go_wp2_with fail
            go_quiet ((go_at_call 26; exact Calls.quiet_of_same (digits_calls _ _ (by omega) (by omega))))
            go_wp2
            exact ⟨⟨k + 1, by omega, by go_num, congrArg Value.string HX.out.symm, hwr.drewN _⟩, by simp [intOf]; omega⟩
          · have t0 : (0 : Int) < k := by omega
            have hnext : ⟨(joinK la (k + 1)).toArray⟩ = (⟨(joinK la k).toArray⟩ ++ ⟨#[32]⟩ ++ ⟨(itoa la[k].lo).toArray⟩ ++ ⟨#[46, 46]⟩ ++ ⟨(itoa la[k].hi).toArray⟩ : ByteArray) := by rw [word_next, joinK_succ la k (by omega) hlt]
            have HX := Lib.hid hnext
            clear hnext
            generalize la[k] = s at *
            have l1 := itoa_length s.lo (by omega) (by omega)
            have l2 := itoa_length s.hi (by omega) (by omega)
            go_wp2_with fail
            go_quiet ((go_at_call 26; exact Calls.quiet_of_same (digits_calls _ _ (by omega) (by omega))))
            go_wp2
            exact ⟨⟨k + 1, by omega, by go_num, congrArg Value.string HX.out.symm, hwr.drewN _⟩, by simp [intOf]; omega⟩
        · obtain rfl : k = la.length := by omega
          go_wp2
          go_ret2
          rw [HT.out, ← joinK_all HN.out]
          exact ⟨rfl, hwr⟩

end Go.Proofs.YtifeapnhemolgaaGreatDoor.Wk
