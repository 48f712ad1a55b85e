/- The reference's Parse: its walk. -/
import Derived.Test.YtifeapnhemolgaaGreatDoorUj
import Derived.Test.YtifeapnhemolgaaGreatDoorUd
import Derived.Deep.DeepCutAuto
import Derived.Deep.CutBlock
namespace Go.Proofs.YtifeapnhemolgaaGreatDoor.Wk
open Go Go.RowKit Go.Proofs.YtifeapnhemolgaaGreatDoor.HL Go.Proofs.YtifeapnhemolgaaGreatDoor.Pl Go.Lib

/-- Where the first two points stand: what has been seen. -/
def DotInv (l : List UInt8) (k : Nat) (d : Int) : Prop :=
  (d = -1 ∧ (0 ≤ index (l.drop k) [46, 46] → dotsF l = k + index (l.drop k) [46, 46]) ∧ (index (l.drop k) [46, 46] < 0 → dotsF l = -1)) ∨ (0 ≤ d ∧ d = dotsF l)

theorem dot_start (l : List UInt8) : DotInv l 0 (-1) := .inl ⟨rfl, fun _ => by simp [dotsF], fun h => by
  have := Pl.index_ge l [46, 46]
  simp only [List.drop_zero] at h
  unfold dotsF
  omega⟩

theorem dot_bound {l : List UInt8} {k : Nat} {d : Int} (h : DotInv l k d) : -1 ≤ d ∧ d ≤ l.length := by
  rcases h with ⟨rfl, _⟩ | ⟨h0, rfl⟩
  · omega
  · exact ⟨by omega, Pl.index_le _ _⟩

theorem dot_found {l : List UInt8} {k : Nat} {d : Int} (h : DotInv l k d) (hd : d < 0) (hp : pointsAt (l.drop k) = true) : DotInv l (k + 1) k := by
  rcases h with ⟨rfl, h1, _⟩ | ⟨h0, _⟩
  · have e := dots_here hp
    exact .inr ⟨by omega, by rw [h1 (by omega), e]; omega⟩
  · omega

theorem dot_next {l : List UInt8} {k : Nat} {d : Int} (h : DotInv l k d) (hd : d < 0) (hk : k < l.length) (hp : pointsAt (l.drop k) = false) : DotInv l (k + 1) d := by
  rcases h with ⟨rfl, h1, h2⟩ | ⟨h0, _⟩
  · have e := dots_next hk hp
    have g := Pl.index_ge (l.drop (k + 1)) [46, 46]
    refine .inl ⟨rfl, fun h3 => ?_, fun h3 => ?_⟩
    · rw [if_neg (by omega)] at e
      rw [h1 (by omega), e]
      omega
    · rw [if_pos h3] at e
      exact h2 (by omega)
  · omega

theorem dot_end {l : List UInt8} {k : Nat} {d : Int} (h : DotInv l k d) (he : l.length ≤ k + 1 ∨ 0 ≤ d) : d = dotsF l := by
  rcases h with ⟨rfl, _, h2⟩ | ⟨_, h1⟩
  · rcases he with he | he
    · rw [h2 (by rw [dots_end he]; decide)]
    · omega
  · exact h1

theorem points_get {l : List UInt8} {k : Nat} (h1 : k + 1 < l.length) : pointsAt (l.drop k) = (l[k] == 46 && l[k + 1] == 46) := by
  rw [List.drop_eq_getElem_cons (by omega), List.drop_eq_getElem_cons h1]
  rfl

theorem take_min (l : List UInt8) (a b : Nat) : (l.drop a).take (b - a) = (l.take b).drop a := by rw [List.drop_take]

theorem extract_list (s : ByteArray) (a b : Nat) : (s.extract a b).data.toList = (s.data.toList.drop a).take (b - a) := by
  rw [ByteArray.data_extract, Array.toList_extract, List.extract_eq_take_drop]

set_option maxHeartbeats 12800000 in
set_option maxRecDepth 100000 in
theorem rparse_calls (S w : World) (H : Hp) (hw : Has S w H) (s : ByteArray) (hs : s.size ≤ 6000) :
    Calls Tryz.prog 10 #[.string s] w (MadeE S H (formO s.data.toList) (formE s.data.toList)) := by
  obtain ⟨i0, hi0, hz0, hz1, hz2⟩ := info_parts infoSp
  have HSL := Lib.hid (show s.data.toList.length = s.size from Array.length_toList)
  go_enter Tryz.func10, Tryz.ntmps10
  by_cases hd : s = ⟨#[45]⟩
  · have hdl : s.data.toList = [45] := by rw [hd]
    have hne : (s.toList == [45]) = true := by rw [ByteArray.toList_eq, hdl]; rfl
    have hf := Lib.hid (form_is (l := s.data.toList) (o := []) (formL_iff.2 ⟨rfl, by rw [hdl]; rfl⟩))
    clear hd hdl
    go_wp2
    go_ret2
    rw [hf.out.1, hf.out.2]
    exact ⟨_, _, rfl, SlR.nil _ _, hw⟩
  · have hdl : s.data.toList ≠ [45] := fun e => hd (by apply ByteArray.ext; apply Array.ext'; exact e)
    have hne : (s.toList == [45]) = false := by rw [ByteArray.toList_eq]; simpa using hdl
    have HRS := Lib.hid (reads_start hdl)
    clear hd hdl
    go_wp2
    go_loopw [4, 5, 6] (fun v b c wr => ∃ (i f : Nat) (out : List Sp) (Hs : Hp), f ≤ i ∧ i ≤ s.size + 1 ∧ c = .int .i64 i ∧ b = .int .i64 f ∧ SlR 41 2 v out.length (spc out) Hs ∧ out.length ≤ 128 ∧ Hid (Reads s.data.toList f i out) ∧ Has S wr (Hs ++ H)) (fun _ _ c _ => s.size + 1 - (intOf c).toNat)
    case atStart => exact ⟨0, 0, [], [], Nat.le_refl _, by omega, rfl, rfl, SlR.nil _ _, by simp, HRS, hw⟩
    case round =>
      obtain ⟨i, f, out, Hs, hfi, his, rfl, rfl, hvo, hol, hrd, hwr⟩ := hrel
      obtain ⟨oo, oc, rfl⟩ := slr_form hvo
      by_cases hle : i ≤ s.size
      · by_cases hmore : ∃ h : i < s.size, s[i] ≠ 32
        · obtain ⟨hlt, hb⟩ := hmore
          have t1 : ((s[i].toNat : Int) != 32) = true := by
            simp only [bne_iff_ne, ne_eq]
            intro e
            exact hb (UInt8.toNat_inj.1 (Int.ofNat.inj e))
          have t2 : ((s[i].toNat : Int) == 32) = false := by
            simp only [beq_eq_false_iff_ne, ne_eq]
            intro e
            exact hb (UInt8.toNat_inj.1 (Int.ofNat.inj e))
          have hn := Lib.hid (reads_more hrd.out hfi (by rw [HSL.out]; exact hlt) hb)
          clear hb
          go_wp2
          exact ⟨⟨i + 1, f, out, Hs, by omega, by omega, by go_num, rfl, hvo, hol, hn, hwr⟩, by simp [intOf]; omega⟩
        · have hbl : ∀ h : i < s.data.toList.length, s.data.toList[i] = 32 := fun h => by
            by_cases e : s[i]'(by rw [← HSL.out]; exact h) = 32
            · exact e
            · exact absurd ⟨by rw [← HSL.out]; exact h, e⟩ hmore
          have HBL := Lib.hid hbl
          clear hmore hbl
          have HBAD := Lib.hid (reads_bad hrd.out hfi (by rw [HSL.out]; exact hle) HBL.out)
          have HNEXT := Lib.hid (reads_next hrd.out hfi (by rw [HSL.out]; exact hle) HBL.out)
          have hpl := extract_list s f i
          rw [← hpl] at HBAD HNEXT
          have hps : (s.extract f i).size ≤ 6000 := by
            rw [ByteArray.size_extract]
            omega
          have t1 : ∀ h : i < s.size, ((s[i].toNat : Int) != 32) = false := fun h => by
            have t3 : s[i] = 32 := HBL.out (by rw [HSL.out]; exact h)
            rw [t3]; rfl
          have t2 : ∀ h : i < s.size, ((s[i].toNat : Int) == 32) = true := fun h => by
            have t3 : s[i] = 32 := HBL.out (by rw [HSL.out]; exact h)
            rw [t3]; rfl
          by_cases hlt : i < s.size
          all_goals
            clear hpl HBL
            go_upto_block 2 with fail
            generalize s.extract f i = pc at *
            have HPL := Lib.hid (show pc.data.toList.length = pc.size from Array.length_toList)
            obtain ⟨wo, rfl⟩ : ∃ wo : World, wo = wr := ⟨_, rfl⟩
            go_cut [8] (fun d wx => d = .int .i64 (dotsF pc.data.toList) ∧ wx = wo)
            case first =>
              go_wp2_with fail
              go_loop [8, 9] (fun d k => ∃ (j : Nat) (d' : Int), j ≤ pc.size ∧ k = .int .i64 j ∧ d = .int .i64 d' ∧ DotInv pc.data.toList j d') (fun _ k => pc.size - (intOf k).toNat)
              case atStart => exact ⟨0, -1, Nat.zero_le _, rfl, rfl, dot_start _⟩
              case round =>
                obtain ⟨j, d', hj, rfl, rfl, hdi⟩ := hrel
                have hdb := dot_bound hdi
                by_cases hj1 : j + 1 < pc.size
                · by_cases hd0 : d' < 0
                  · have hjl : j + 1 < pc.data.toList.length := by rw [HPL.out]; exact hj1
                    have hp := points_get hjl
                    have e0 : pc.data.toList[j] = pc[j] := rfl
                    have e1 : pc.data.toList[j + 1] = pc[j + 1] := rfl
                    rw [e0, e1] at hp
                    have HF := Lib.hid (dot_found hdi hd0)
                    have HN := Lib.hid (dot_next hdi hd0 (by omega))
                    rw [hp] at HF HN
                    clear hp e0 e1 hdi
                    have hj2 : j < pc.size := by omega
                    by_cases p0 : pc[j] = 46
                    · have q0 : ((pc[j].toNat : Int) == 46) = true := by rw [p0]; rfl
                      by_cases p1 : pc[j + 1] = 46
                      · have q1 : ((pc[j + 1].toNat : Int) == 46) = true := by rw [p1]; rfl
                        have HR := Lib.hid (HF.out (by rw [p0, p1]; rfl))
                        clear p0 p1
                        go_wp2
                        exact ⟨⟨j + 1, j, by omega, by go_num, rfl, HR.out⟩, by simp [intOf]; omega⟩
                      · have q1 : ((pc[j + 1].toNat : Int) == 46) = false := by
                          simp only [beq_eq_false_iff_ne, ne_eq]
                          intro e
                          exact p1 (UInt8.toNat_inj.1 (Int.ofNat.inj e))
                        have HR := Lib.hid (HN.out (by simp [p1]))
                        clear p0 p1
                        go_wp2
                        exact ⟨⟨j + 1, d', by omega, by go_num, rfl, HR.out⟩, by simp [intOf]; omega⟩
                    · have q0 : ((pc[j].toNat : Int) == 46) = false := by
                        simp only [beq_eq_false_iff_ne, ne_eq]
                        intro e
                        exact p0 (UInt8.toNat_inj.1 (Int.ofNat.inj e))
                      have HR := Lib.hid (HN.out (by simp [p0]))
                      clear p0
                      go_wp2
                      exact ⟨⟨j + 1, d', by omega, by go_num, rfl, HR.out⟩, by simp [intOf]; omega⟩
                  · have hr := Lib.hid (dot_end hdi (.inr (by omega)))
                    clear hdi
                    go_wp2
                    go_meet
                    exact ⟨congrArg (Value.int .i64) hr.out, rfl⟩
                · have hr := Lib.hid (dot_end hdi (.inl (by rw [HPL.out]; omega)))
                  clear hdi
                  go_wp2
                  go_meet
                  exact ⟨congrArg (Value.int .i64) hr.out, rfl⟩
            case rest =>
            obtain ⟨rfl, rfl⟩ := hcut
            have hdb := dots_bound pc.data.toList
            have hdm := Pl.index_ge pc.data.toList [46, 46]
            rw [HPL.out] at hdb
            change -1 ≤ dotsF pc.data.toList at hdm
            generalize hD : dotsF pc.data.toList = D at *
            by_cases hbad : D < 0 ∨ 128 ≤ out.length
            · have hf := Lib.hid (form_none (HBAD.out (hbad.elim .inl fun h => .inr (.inl h))))
              clear hD hdb
              rcases hbad with hbad | hbad
              · go_wp2
                go_ret2
                rw [hf.out.1, hf.out.2]
                exact MadeE.fail hwr.right
              · by_cases hD0 : D < 0
                · go_wp2
                  go_ret2
                  rw [hf.out.1, hf.out.2]
                  exact MadeE.fail hwr.right
                · go_wp2
                  go_ret2
                  rw [hf.out.1, hf.out.2]
                  exact MadeE.fail hwr.right
            · obtain ⟨dn, rfl⟩ : ∃ dn : Nat, D = dn := ⟨D.toNat, by omega⟩
              have hdn : dn + 2 ≤ pc.size := by omega
              have hol2 : out.length < 128 := by omega
              rw [Int.toNat_natCast] at HBAD HNEXT
              have e1 : (pc.extract 0 dn).data.toList = pc.data.toList.take dn := by rw [extract_list]; simp
              have e2 : (pc.extract (dn + 2) pc.size).data.toList = pc.data.toList.drop (dn + 2) := by
                rw [extract_list, List.take_of_length_le (by rw [List.length_drop, HPL.out]; exact Nat.le_refl _)]
              rw [← e1, ← e2] at HBAD HNEXT
              have z1 : (pc.extract 0 dn).size ≤ 9223372036854775807 := by rw [ByteArray.size_extract]; omega
              have z2 : (pc.extract (dn + 2) pc.size).size ≤ 9223372036854775807 := by rw [ByteArray.size_extract]; omega
              have N1 := Lib.hid (fun w => number_calls (pc.extract 0 dn) w z1)
              have N2 := Lib.hid (fun w => number_calls (pc.extract (dn + 2) pc.size) w z2)
              clear hbad hdb hdm hD e1 e2 z1 z2
              generalize numV (pc.extract 0 dn).data.toList = x1 at *
              generalize numB (pc.extract 0 dn).data.toList = b1 at *
              generalize numV (pc.extract (dn + 2) pc.size).data.toList = x2 at *
              generalize numB (pc.extract (dn + 2) pc.size).data.toList = b2 at *
              go_wp2_with fail
              refine (N1.out _).mono ?_
              rintro e wa ⟨rfl, rfl⟩
              go_wp2_with fail
              refine (N2.out _).mono ?_
              rintro e wb ⟨rfl, rfl⟩
              clear N1 N2
              cases b1 with
              | false =>
                have hf := Lib.hid (form_none (HBAD.out (.inr (.inr (.inl rfl)))))
                go_wp2
                go_ret2
                rw [hf.out.1, hf.out.2]
                exact MadeE.fail hwr.right
              | true =>
                cases b2 with
                | false =>
                  have hf := Lib.hid (form_none (HBAD.out (.inr (.inr (.inr rfl)))))
                  go_wp2
                  go_ret2
                  rw [hf.out.1, hf.out.2]
                  exact MadeE.fail hwr.right
                | true =>
                  clear HBAD
                  go_wp2_with (at_builtin; refine wpList_append_lit (S := S) rfl _ _ 22 rfl Tryz.underlying22 hi0 hz0 hz1 hz2 rfl (by decide) rfl rfl (by simp) hvo hwr rfl rfl (by unfold maxLen; omega) (by omega) ?_; intro v' w7 Hs' hv' hw7 _)
                  refine ⟨⟨i + 1, i + 1, out ++ [⟨x1, x2⟩], Hs', Nat.le_refl _, by omega, by go_num, by go_num, ?_, by simp; omega, HNEXT, hw7⟩, by simp [intOf]; omega⟩
                  rw [spc_append, List.length_append]; exact hv'
      · obtain rfl : i = s.size + 1 := by omega
        have HE := Lib.hid (reads_end hrd.out (by rw [HSL.out]; omega))
        go_wp2_with fail
        refine (rtext_calls S _ _ hwr _ out (hvo.read fun p hp => List.mem_append_left _ hp)).mono ?_
        rintro e w6 ⟨rfl, hw6⟩
        cases ho : isSet out with
        | false =>
          have hf := Lib.hid (form_none (HE.out.2 (by rw [ho]; simp)))
          clear HE
          go_wp2
          go_ret2
          rw [hf.out.1, hf.out.2]
          exact MadeE.fail hw6.right
        | true =>
          by_cases ht : textL out = s.data.toList
          · have hf := Lib.hid (form_is (HE.out.1 ho ht))
            have hne2 : (!textV out == s.toList) = false := by rw [ByteArray.toList_eq]; simp [textV, ho, ht]
            clear HE
            go_wp2
            go_ret2
            rw [hf.out.1, hf.out.2]
            exact ⟨_, _, rfl, hvo, hw6⟩
          · have hf := Lib.hid (form_none (HE.out.2 fun h => ht h.2))
            have hne2 : (!textV out == s.toList) = true := by rw [ByteArray.toList_eq]; simp [textV, ho, ht]
            clear HE
            go_wp2
            go_ret2
            rw [hf.out.1, hf.out.2]
            exact MadeE.fail hw6.right

end Go.Proofs.YtifeapnhemolgaaGreatDoor.Wk
