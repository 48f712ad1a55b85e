/- Parse: its walk. -/
import Derived.Test.YtifeapnhemolgaaGreatDoorUc
namespace Go.Proofs.YtifeapnhemolgaaGreatDoor.Wk
open Go Go.RowKit Go.Proofs.YtifeapnhemolgaaGreatDoor.HL Go.Proofs.YtifeapnhemolgaaGreatDoor.Pl

/-- What Parse returns. -/
def formO (l : List UInt8) : List Sp := (formL l).getD []
def formE (l : List UInt8) : Int := match formL l with
  | none => 5
  | some _ => 0

theorem form_none {l : List UInt8} (h : formL l = none) : formO l = [] ∧ formE l = 5 := by
  unfold formO formE
  rw [h]
  exact ⟨rfl, rfl⟩

theorem form_is {l : List UInt8} {o : List Sp} (h : formL l = some o) : formO l = o ∧ formE l = 0 := by
  unfold formO formE
  rw [h]
  exact ⟨rfl, rfl⟩

theorem splitK_le (sep : List UInt8) : ∀ (k : Nat) (s w : List UInt8), w ∈ Lib.splitK sep 0 k s → w.length ≤ s.length
  | 0, s, w, h => by
    rw [Lib.splitK, List.mem_singleton] at h
    subst h; exact Nat.le_refl _
  | k + 1, s, w, h => by
    rw [Lib.splitK] at h
    split at h
    · rw [List.mem_singleton] at h
      subst h; exact Nat.le_refl _
    · rcases List.mem_cons.1 h with e | e
      · subst e; rw [List.length_take]; omega
      · have := splitK_le sep k _ w e
        rw [List.length_drop] at this
        omega

theorem pair_bad1 {w : List UInt8} (h : ∀ v, Lib.atoiAll (Lib.cut w [46, 46]).1 ≠ .ok v) : pairL w = none := by
  unfold pairL
  split
  · split
    · rename_i e _; exact absurd e (h _)
    · rfl
  · rfl

theorem pair_bad2 {w : List UInt8} (h : ∀ v, Lib.atoiAll (Lib.cut w [46, 46]).2.1 ≠ .ok v) : pairL w = none := by
  unfold pairL
  split
  · split
    · rename_i _ e; exact absurd e (h _)
    · rfl
  · rfl

theorem pair_bad3 {w : List UInt8} (h : (Lib.cut w [46, 46]).2.2 = false) : pairL w = none := by
  unfold pairL
  rw [h]
  rfl

theorem pair_good {w : List UInt8} {a b : Int} (h : (Lib.cut w [46, 46]).2.2 = true) (ha : Lib.atoiAll (Lib.cut w [46, 46]).1 = .ok a) (hb : Lib.atoiAll (Lib.cut w [46, 46]).2.1 = .ok b) : pairL w = some ⟨a, b⟩ := by
  unfold pairL
  rw [h, ha, hb]
  rfl

theorem ok_or (l : List UInt8) : (∃ v, Lib.atoiAll l = .ok v) ∨ ∀ v, Lib.atoiAll l ≠ .ok v := by
  rcases Lib.atoiAll l with v | _ | _
  · exact .inl ⟨v, rfl⟩
  · exact .inr fun v e => by cases e
  · exact .inr fun v e => by cases e

theorem cut_len (w : List UInt8) : (Lib.cut w [46, 46]).1.length ≤ w.length ∧ (Lib.cut w [46, 46]).2.1.length ≤ w.length := by
  unfold Lib.cut
  split
  · simp only [List.length_take, List.length_drop]; omega
  · simp

set_option maxHeartbeats 6400000 in
set_option maxRecDepth 100000 in
theorem parse_calls (S w : World) (H : Hp) (hw : Has S w H) (hL : LibOk S H) (s : ByteArray) (hs : s.size ≤ 4294967280) :
    Calls Tryz.prog 9 #[.string s] w (MadeE S H (formO s.data.toList) (formE s.data.toList)) := by
  obtain ⟨i0, hi, hz0, hz1, hz2⟩ := info_parts infoSp
  go_enter Tryz.func9, Tryz.ntmps9
  by_cases hd : s = ⟨#[45]⟩
  · have hdl : s.data.toList = [45] := by rw [hd]
    have hne : (!s.toList == [45]) = false := by rw [ByteArray.toList_eq, hdl]; rfl
    have HPL : Hid (partsL s.data.toList = some []) := by simp [Hid, partsL, hdl]
    have hw5 : Has S w ([] ++ H) := hw
    have hv5 : SlR 41 2 (.slice none 0 0) ([] : List Sp).length (spc []) [] := SlR.nil _ _
    generalize hout : ([] : List Sp) = out at *
    have HOUT := Lib.hid hout
    clear hd hdl hout
    go_wp2_with fail
    refine (text_calls S _ _ hw5 (hL.more _).tab _ out (hv5.read fun p hp => List.mem_append_left _ hp)).mono ?_
    rintro e w6 ⟨rfl, hw6⟩
    cases ho : isSet out with
    | false =>
      have hf := Lib.hid (form_none (l := s.data.toList) (by simp [formL, HPL.out, ho]))
      clear HPL
      go_wp2
      go_ret2
      rw [hf.out.1, hf.out.2]
      exact MadeE.fail hw6.right
    | true =>
      by_cases ht : textL out = s.data.toList
      · have hf := Lib.hid (form_is (l := s.data.toList) (o := out) (by simp [formL, HPL.out, ho, ht]))
        have hne : (!textV out == s.toList) = false := by rw [ByteArray.toList_eq]; simp [textV, ho, ht]
        clear HPL
        go_wp2
        go_ret2
        rw [hf.out.1, hf.out.2]
        exact ⟨_, _, rfl, hv5, hw6⟩
      · have hf := Lib.hid (form_none (l := s.data.toList) (by simp [formL, HPL.out, ho, ht]))
        have hne : (!textV out == s.toList) = true := by rw [ByteArray.toList_eq]; simp [textV, ho, ht]
        clear HPL
        go_wp2
        go_ret2
        rw [hf.out.1, hf.out.2]
        exact MadeE.fail hw6.right
  · have hdl : s.data.toList ≠ [45] := fun e => hd (by apply ByteArray.ext; apply Array.ext'; exact e)
    have hne : (!s.toList == [45]) = true := by rw [ByteArray.toList_eq]; simpa using hdl
    have hPL : partsL s.data.toList = readL (Lib.split s.data.toList [32]) [] := by unfold partsL; rw [if_neg hdl]
    go_wp2_with fail
    refine (split_calls S w H hw hL s hs).mono ?_
    rintro e w2 ⟨ws, hws, hwl, rfl, hw2⟩
    have hsz : ∀ x ∈ ws, x.size ≤ 4294967280 := fun x hx => by
      have h1 : x.data.toList ∈ Lib.split s.data.toList [32] := by rw [← hws]; exact List.mem_map_of_mem hx
      have h2 := splitK_le _ _ _ _ h1
      have e1 : x.size = x.data.toList.length := (Array.length_toList).symm
      have e2 : s.size = s.data.toList.length := (Array.length_toList).symm
      rw [e1]
      rw [e2] at hs
      exact Nat.le_trans h2 hs
    rw [← hws] at hPL
    have HPL0 := Lib.hid hPL
    have HSZ := Lib.hid hsz
    clear hPL hws hsz hdl hd
    generalize hB0 : w.heap.size = B at *
    go_wp2
    go_loopw [4, 21] (fun v c wr => ∃ (k : Nat) (out : List Sp) (Hs : Hp), k ≤ ws.length ∧ c = .int .i64 k ∧ SlR 41 2 v out.length (spc out) Hs ∧ out.length ≤ 128 ∧ Hid (readL ((ws.drop k).map fun x => x.data.toList) out = partsL s.data.toList) ∧ Has S wr (Hs ++ ((B, .cells (ws.map Value.string).toArray 9 (0, 0)) :: H))) (fun _ c _ => ws.length - (intOf c).toNat)
    case atStart => exact ⟨0, [], [], Nat.zero_le _, rfl, SlR.nil _ _, by simp, HPL0.out.symm, hw2⟩
    case round =>
      obtain ⟨k, out, Hs, hk, rfl, hvo, hl, hrd, hwr⟩ := hrel
      have hL2 : LibOk S (Hs ++ ((B, .cells (ws.map Value.string).toArray 9 (0, 0)) :: H)) := (hL.more [(B, .cells (ws.map Value.string).toArray 9 (0, 0))]).more Hs
      by_cases hlt : k < ws.length
      · obtain ⟨oo, oc, rfl⟩ := slr_form hvo
        have c0 : wr.cell? ⟨B, k, none⟩ = some (.string ws[k]) := hwr.right.cell (c := (ws.map Value.string).toArray) (E := 9) (fz := (0, 0)) List.mem_cons_self (by simp [hlt])
        have hz := HSZ.out ws[k] (List.getElem_mem hlt)
        rw [List.drop_eq_getElem_cons hlt, List.map_cons, readL] at hrd
        have hnx : ws.drop (k + 1) = ws.drop (k + 1) := rfl
        generalize ws[k] = x at *
        go_wp2_with fail
        refine (cut_calls S _ _ hwr hL2 x ⟨#[46, 46]⟩ hz).mono ?_
        rintro e w3 ⟨rfl, hw3⟩
        have bw := cut_len x.data.toList
        have hx1 : (⟨(Lib.cut x.data.toList [46, 46]).1.toArray⟩ : ByteArray).size ≤ 4294967280 := by
          have e1 : x.size = x.data.toList.length := (Array.length_toList).symm
          have e2 : (⟨(Lib.cut x.data.toList [46, 46]).1.toArray⟩ : ByteArray).size = (Lib.cut x.data.toList [46, 46]).1.length := rfl
          rw [e2]
          rw [e1] at hz
          exact Nat.le_trans bw.1 hz
        have hx2 : (⟨(Lib.cut x.data.toList [46, 46]).2.1.toArray⟩ : ByteArray).size ≤ 4294967280 := by
          have e1 : x.size = x.data.toList.length := (Array.length_toList).symm
          have e2 : (⟨(Lib.cut x.data.toList [46, 46]).2.1.toArray⟩ : ByteArray).size = (Lib.cut x.data.toList [46, 46]).2.1.length := rfl
          rw [e2]
          rw [e1] at hz
          exact Nat.le_trans bw.2 hz
        have FIN : pairL x.data.toList = none → formL s.data.toList = none := fun h => by
          have h1 := hrd.out
          rw [h] at h1
          simp only at h1
          simp [formL, ← h1]
        have FULL : 128 ≤ out.length → formL s.data.toList = none := fun h => by
          have h1 := hrd.out
          cases hp : pairL x.data.toList with
          | none => exact FIN hp
          | some q =>
            rw [hp] at h1
            simp only at h1
            rw [if_pos h] at h1
            simp [formL, ← h1]
        have HFIN := Lib.hid FIN
        have HFULL := Lib.hid FULL
        clear FIN FULL bw
        have hA := ok_or (Lib.cut x.data.toList [46, 46]).1
        have hBb := ok_or (Lib.cut x.data.toList [46, 46]).2.1
        have P1 := Lib.hid (pair_bad1 (w := x.data.toList))
        have P2 := Lib.hid (pair_bad2 (w := x.data.toList))
        have P3 := Lib.hid (pair_bad3 (w := x.data.toList))
        have P4 := Lib.hid (fun a b => pair_good (w := x.data.toList) (a := a) (b := b))
        generalize (Lib.cut x.data.toList [46, 46]).1 = ca at *
        generalize (Lib.cut x.data.toList [46, 46]).2.1 = cb at *
        generalize (Lib.cut x.data.toList [46, 46]).2.2 = cf at *
        go_wp2_with fail
        rcases hA with ⟨na, hA⟩ | hA
        · refine (atoi_ok S _ _ hw3 ⟨ca.toArray⟩ hx1 na hA).mono ?_
          rintro e w4 ⟨rfl, hw4⟩
          go_wp2_with fail
          rcases hBb with ⟨nb, hBb⟩ | hBb
          · refine (atoi_ok S _ _ hw4 ⟨cb.toArray⟩ hx2 nb hBb).mono ?_
            rintro e w5 ⟨rfl, hw5⟩
            cases cf with
            | false =>
              have hf := Lib.hid (form_none (HFIN.out (P3.out rfl)))
              clear hrd
              go_wp2
              go_ret2
              rw [hf.out.1, hf.out.2]
              exact MadeE.fail hw5.right.tail
            | true =>
              by_cases hfull : 128 ≤ out.length
              · have hf := Lib.hid (form_none (HFULL.out hfull))
                clear hrd
                go_wp2
                go_ret2
                rw [hf.out.1, hf.out.2]
                exact MadeE.fail hw5.right.tail
              · have hfull2 : out.length < 128 := by omega
                have hnx : Hid (readL ((ws.drop (k + 1)).map fun x => x.data.toList) (out ++ [⟨na, nb⟩]) = partsL s.data.toList) := by
                  have h1 := hrd.out
                  rw [P4.out na nb rfl hA hBb] at h1
                  simp only at h1
                  rw [if_neg hfull] at h1
                  exact h1
                clear hrd
                go_wp2_with (at_builtin; refine wpList_append_lit (S := S) rfl _ _ 22 rfl Tryz.underlying22 hi hz0 hz1 hz2 rfl (by decide) rfl rfl (by simp) hvo hw5 rfl rfl (by unfold maxLen; omega) (by omega) ?_; intro v' w7 Hs' hv' hw7 _)
                refine ⟨⟨k + 1, out ++ [⟨na, nb⟩], Hs', by omega, by go_num, ?_, by simp; omega, hnx, hw7⟩, by simp [intOf]; omega⟩
                rw [spc_append, List.length_append]; exact hv'
          · refine (atoi_bad S _ _ hw4 hL2 ⟨cb.toArray⟩ hx2 hBb).mono ?_
            rintro e w5 ⟨z, t, p, rfl, hw5⟩
            have hf := Lib.hid (form_none (HFIN.out (P2.out hBb)))
            clear hrd
            cases cf
            all_goals
              go_wp2
              go_ret2
              rw [hf.out.1, hf.out.2]
              exact MadeE.fail hw5.right.tail
        · refine (atoi_bad S _ _ hw3 hL2 ⟨ca.toArray⟩ hx1 hA).mono ?_
          rintro e w4 ⟨z, t, p, rfl, hw4⟩
          have hf := Lib.hid (form_none (HFIN.out (P1.out hA)))
          clear hrd
          go_wp2_with fail
          rcases hBb with ⟨nb, hBb⟩ | hBb
          · refine (atoi_ok S _ _ hw4 ⟨cb.toArray⟩ hx2 nb hBb).mono ?_
            rintro e w5 ⟨rfl, hw5⟩
            cases cf
            all_goals
              go_wp2
              go_ret2
              rw [hf.out.1, hf.out.2]
              exact MadeE.fail hw5.right.tail
          · refine (atoi_bad S _ _ hw4 hL2 ⟨cb.toArray⟩ hx2 hBb).mono ?_
            rintro e w5 ⟨z2, t2, p2, rfl, hw5⟩
            cases cf
            all_goals
              go_wp2
              go_ret2
              rw [hf.out.1, hf.out.2]
              exact MadeE.fail hw5.right.tail
      · obtain rfl : k = ws.length := by omega
        have HPL : Hid (partsL s.data.toList = some out) := by
          have h1 := hrd.out
          rw [List.drop_length, List.map_nil, readL] at h1
          exact h1.symm
        clear hrd HPL0 HSZ
        obtain ⟨oo, oc, rfl⟩ := slr_form hvo
        have hv5 := hvo
        have hw5 : Has S wr ((Hs ++ [(B, .cells (ws.map Value.string).toArray 9 (0, 0))]) ++ H) := by rw [List.append_assoc]; exact hwr
        have hw5 := hw5.sub (List.Sublist.append_right (List.sublist_append_left _ _) _)
        go_wp2_with fail
        refine (text_calls S _ _ hw5 (hL.more _).tab _ out (hv5.read fun p hp => List.mem_append_left _ hp)).mono ?_
        rintro e w6 ⟨rfl, hw6⟩
        cases ho : isSet out with
        | false =>
          have hf := Lib.hid (form_none (l := s.data.toList) (by simp [formL, HPL.out, ho]))
          clear HPL
          go_wp2
          go_ret2
          rw [hf.out.1, hf.out.2]
          exact MadeE.fail hw6.right
        | true =>
          by_cases ht : textL out = s.data.toList
          · have hf := Lib.hid (form_is (l := s.data.toList) (o := out) (by simp [formL, HPL.out, ho, ht]))
            have hne : (!textV out == s.toList) = false := by rw [ByteArray.toList_eq]; simp [textV, ho, ht]
            clear HPL
            go_wp2
            go_ret2
            rw [hf.out.1, hf.out.2]
            exact ⟨_, _, rfl, hv5, hw6⟩
          · have hf := Lib.hid (form_none (l := s.data.toList) (by simp [formL, HPL.out, ho, ht]))
            have hne : (!textV out == s.toList) = true := by rw [ByteArray.toList_eq]; simp [textV, ho, ht]
            clear HPL
            go_wp2
            go_ret2
            rw [hf.out.1, hf.out.2]
            exact MadeE.fail hw6.right

end Go.Proofs.YtifeapnhemolgaaGreatDoor.Wk
