/- Text: its walk. -/
import Derived.Test.YtifeapnhemolgaaGreatDoorWn
import Derived.Test.YtifeapnhemolgaaGreatDoorSh
import Derived.Test.YtifeapnhemolgaaGreatDoorQb
namespace Go.Proofs.YtifeapnhemolgaaGreatDoor.Wk
open Go Go.RowKit Go.Proofs.YtifeapnhemolgaaGreatDoor.HL Go.Proofs.YtifeapnhemolgaaGreatDoor.Pl

/-- The table that strconv.Itoa reads lies in all worlds that hold H. -/
def TabOk (S : World) (H : Hp) : Prop := ∀ w', Has S w' H → Lib.TabIs Tryz.prog w' "internal/strconv.uint64pow10" .u64 Lib.pow10Tab

theorem TabOk.more {S : World} {H : Hp} (h : TabOk S H) (X : Hp) : TabOk S (X ++ H) := fun w' hw => h w' hw.right

theorem grow_below (w : World) (k : Nat) (os : Array Obj) : Below w.heap.size w (Go.Sort.grow (w.drewN k) os) := by
  refine ⟨rfl, rfl, rfl, ?_, fun j hj => ?_⟩
  · show w.heap.size ≤ (w.heap ++ os).size
    simp
  · show (w.heap ++ os)[j]? = w.heap[j]?
    rw [Array.getElem?_append_left hj]

def strV (l : List UInt8) : Value := .string ⟨l.toArray⟩

theorem itoa_calls (S w : World) (H : Hp) (hw : Has S w H) (hT : TabOk S H) (n : Int) (h0 : -9223372036854775808 ≤ n) (h1 : n ≤ 9223372036854775807) :
    Calls Tryz.prog 23 #[.int .i64 n] w fun e w' => e = .returned (.string ⟨(Lib.itoa n).toArray⟩) ∧ Has S w' H := by
  refine (Tryz.strconv_Itoa n h0 h1 w (hT w hw)).mono ?_
  rintro e w' ⟨rfl, k, os, rfl⟩
  exact ⟨rfl, hw.below (grow_below w k os)⟩

/-- The words of some spans, as values. -/
def wordsV (l : List Sp) : List Value := l.map fun s => strV (wordL s)

theorem wordsV_append (a b : List Sp) : wordsV (a ++ b) = wordsV a ++ wordsV b := by simp [wordsV]

theorem word_cat (s : Sp) : (⟨(Lib.itoa s.lo).toArray⟩ ++ ⟨#[46, 46]⟩ ++ ⟨(Lib.itoa s.hi).toArray⟩ : ByteArray) = ⟨(wordL s).toArray⟩ := by
  apply ByteArray.ext
  simp [wordL]

theorem word_val (s : Sp) : Value.string (⟨(Lib.itoa s.lo).toArray⟩ ++ ⟨#[46, 46]⟩ ++ ⟨(Lib.itoa s.hi).toArray⟩) = strV (wordL s) := congrArg Value.string (word_cat s)

theorem str_form {v : Value} {n : Nat} {xs : List Value} {Hs : Hp} (h : SlR 9 1 v n xs Hs) : ∃ ao cap, v = .slice ao n cap := by
  obtain ⟨_, ⟨rfl, rfl, _⟩ | ⟨b, off, cap, c, rfl, _⟩⟩ := h
  · exact ⟨_, _, rfl⟩
  · exact ⟨_, _, rfl⟩

/-- What Text gives. -/
def textV (l : List Sp) : List UInt8 := if isSet l = true then textL l else []

theorem join_words (S w : World) (H Hs : Hp) (hw : Has S w (Hs ++ H)) (v : Value) (la : List Sp) (hv : SlR 9 1 v la.length (wordsV la) Hs) (hl : la ≠ []) (hlen : (textL la).length ≤ 4000) (hn : la.length ≤ 128) :
    Calls Tryz.prog 24 #[v, .string ⟨#[32]⟩] w fun e w' => e = .returned (.string ⟨(textL la).toArray⟩) ∧ Has S w' H := by
  obtain ⟨h0, ⟨rfl, hz, _⟩ | ⟨b, off, cap, c, rfl, hcap, _, rfl, hsz, hc⟩⟩ := hv
  · exact absurd (List.eq_nil_of_length_eq_zero hz) hl
  · have hj := Tryz.strings_Join b off cap (la.map fun s => ⟨(wordL s).toArray⟩) ⟨#[32]⟩ w ?_ (hw.lt (o := .cells c 9 (0, 0)) (by simp)) (by simp; omega) (by simpa using hcap) ?_
    · rw [List.length_map] at hj
      refine hj.mono ?_
      rintro e w' ⟨rfl, hB⟩
      refine ⟨?_, (hw.below hB).right⟩
      unfold textL
      rw [if_neg hl]
      congr 4
      simp [Function.comp_def]
    · intro j x hx
      rw [List.getElem?_map, Option.map_eq_some_iff] at hx
      obtain ⟨s, hs, rfl⟩ := hx
      have hlt := (List.getElem?_eq_some_iff.1 hs).1
      refine hw.cell (c := c) (E := 9) (fz := (0, 0)) (by simp) ?_
      rw [hc j (by omega)]
      simp [wordsV, hs, strV]
    · have e : Lib.join ((la.map fun s => (⟨(wordL s).toArray⟩ : ByteArray)).map fun x => x.data.toList) [32] = textL la := by
        unfold textL
        rw [if_neg hl]
        congr 1
        simp
      show (Lib.join _ [32]).length ≤ _
      rw [e]
      omega

theorem infoStr : (Tryz.prog.info? 9).map (fun i => (i.zero, i.size, i.bytes)) = some (some (.string ⟨#[]⟩), 1, 16) := by kernel_rfl

set_option maxHeartbeats 3200000 in
set_option maxRecDepth 100000 in
theorem text_calls (S w : World) (H : Hp) (hw : Has S w H) (hT : TabOk S H) (va : Value) (la : List Sp) (ha : SlIn H 2 va la.length (spc la)) :
    Calls Tryz.prog 7 #[va] w fun e w' => e = .returned (.tuple #[.string ⟨(textV la).toArray⟩, .int .i64 (if isSet la = true then 0 else 2)]) ∧ Has S w' H := by
  obtain ⟨i0, hi, hz0, hz1, hz2⟩ := info_parts infoStr
  have hv := set_calls S w H hw va la ha
  obtain ⟨_, aa, ca, rfl, hca, hra⟩ := ha
  cases hsa : isSet la with
  | false =>
    have HT : Hid (textV la = []) := by simp [Hid, textV, hsa]
    rw [hsa] at hv
    have HV := Lib.hid hv
    clear hv hsa
    go_enter Tryz.func7, Tryz.ntmps7
    go_wp2_with fail
    refine HV.out.mono ?_
    rintro e w2 ⟨rfl, hB2⟩
    go_wp2
    go_ret2
    rw [HT.out]
    exact ⟨rfl, hw.below hB2⟩
  | true =>
    have hlen := text_length hsa
    have hl128 := isSet_len hsa
    have hok := isSet_ok hsa
    have HT : Hid (textV la = textL la) := by simp [Hid, textV, hsa]
    rw [hsa] at hv
    have HV := Lib.hid hv
    have HK := Lib.hid hok
    clear hv hsa hok
    by_cases hn : la = []
    · subst hn
      go_enter Tryz.func7, Tryz.ntmps7
      go_wp2_with fail
      refine HV.out.mono ?_
      rintro e w2 ⟨rfl, hB2⟩
      go_wp2
      go_ret2
      rw [HT.out]
      exact ⟨rfl, hw.below hB2⟩
    · have hpos : 0 < la.length := List.length_pos_iff.2 hn
      have hne0 : ((la.length : Int) == 0) = false := by simp [hn]
      have HN := Lib.hid hn
      clear hn
      go_enter Tryz.func7, Tryz.ntmps7
      go_wp2_with fail
      refine HV.out.mono ?_
      rintro e w2 ⟨rfl, hB2⟩
      have hw2 := hw.below hB2
      go_wp2
      go_loopw [4, 15] (fun v c wr => ∃ (k : Nat) (Hs : Hp), k ≤ la.length ∧ c = .int .i64 k ∧ SlR 9 1 v k (wordsV (la.take k)) Hs ∧ Has S wr (Hs ++ H)) (fun _ c _ => la.length - (intOf c).toNat)
      case atStart => exact ⟨0, [], Nat.zero_le _, rfl, ⟨rfl, .inl ⟨rfl, rfl, rfl⟩⟩, hw2⟩
      case round =>
        obtain ⟨k, Hs, hk, rfl, hvo, hwr⟩ := hrel
        obtain ⟨ao, cap, rfl⟩ := str_form hvo
        by_cases hlt : k < la.length
        · obtain ⟨b, o, rfl, ra⟩ := hra (by omega)
          obtain ⟨a0, a1⟩ := sp_cells hwr.right ra (List.getElem?_eq_getElem hlt)
          obtain ⟨k1, k2, k3⟩ := ok_bounds (HK.out la[k] (List.getElem_mem hlt))
          have hnext : wordsV (la.take (k + 1)) = wordsV (la.take k) ++ [strV (wordL la[k])] := by
            rw [List.take_succ_eq_append_getElem hlt, wordsV_append]; rfl
          have HX := Lib.hid hnext
          clear hnext
          generalize la[k] = s at *
          have l1 := itoa_length s.lo (by omega) (by omega)
          have l2 := itoa_length s.hi (by omega) (by omega)
          go_wp2
          have hS := (hwr.alloc (.cells #[.int .i64 s.lo, .int .i64 s.hi] 41)).perm List.perm_middle.symm
          have hT2 : TabOk S (Hs ++ ((wr.heap.size, .cells #[.int .i64 s.lo, .int .i64 s.hi] 41 (0, 0)) :: H)) := (hT.more [(wr.heap.size, .cells #[.int .i64 s.lo, .int .i64 s.hi] 41 (0, 0))]).more Hs
          haveI hne := clsTrue (S := (fun w' => Has S w' ((wr.heap.size, .cells #[.int .i64 s.lo, .int .i64 s.hi] 41 (0, 0)) :: H))) hS.right
          have x0 := fun x : Cw (cls true (fun w' => Has S w' ((wr.heap.size, .cells #[.int .i64 s.lo, .int .i64 s.hi] 41 (0, 0)) :: H))) => (x.h rfl).cell (o := 0) List.mem_cons_self rfl
          have x1 := fun x : Cw (cls true (fun w' => Has S w' ((wr.heap.size, .cells #[.int .i64 s.lo, .int .i64 s.hi] 41 (0, 0)) :: H))) => (x.h rfl).cell (o := 1) List.mem_cons_self rfl
          refine held_start (fun w' => Has S w' ((wr.heap.size, .cells #[.int .i64 s.lo, .int .i64 s.hi] 41 (0, 0)) :: H)) [] (by kernel_rfl) ?_
          refine held_seg true [true,true,true,false,false,true,true] 7 (by kernel_rfl) hS.right.drew ?_
          simp only [pickB]
          repeat (go_big_quiet_step (fail))
          refine wpQuiet_nil ?_
          refine held_one 3 (by kernel_rfl) rfl rfl fun K hK => ?_
          clear x0 x1
          go_simp
          refine (itoa_calls S _ _ hS.drew hT2 s.lo (by omega) (by omega)).mono ?_
          rintro e w3 ⟨rfl, hw3⟩
          refine hK _ _ (fun _ => hw3.right) ?_
          clear hK K
          have l3 : ¬ 9223372036854775807 < (Lib.itoa s.lo).length + 2 := by omega
          refine held_seg false [false,false,false,false,true] 5 (by kernel_rfl) hw3.right ?_
          simp only [pickB]
          repeat (go_big_quiet_step (fail))
          refine wpQuiet_nil ?_
          refine held_one 7 (by kernel_rfl) rfl rfl fun K hK => ?_
          go_simp
          refine (itoa_calls S _ _ hw3 hT2 s.hi (by omega) (by omega)).mono ?_
          rintro e w4 ⟨rfl, hw4⟩
          refine hK _ _ (fun _ => hw4.right) ?_
          clear hK K
          refine held_one 8 (by kernel_rfl) rfl rfl fun K hK => ?_
          go_simp
          rw [if_neg (by simp; omega)]
          refine hK _ _ (fun _ => hw4.right) ?_
          clear hK K
          refine held_one 9 (by kernel_rfl) rfl rfl fun K hK => ?_
          go_simp
          refine hK _ _ (fun _ => hw4.right.more _) ?_
          clear hK K
          refine held_one 10 (by kernel_rfl) rfl rfl fun K hK => ?_
          refine wp_append_lit (S := S) (X := w4) _ _ 46 rfl Tryz.underlying46 hi hz0 hz1 hz2 rfl (by decide) rfl rfl (by simp) hvo hw4 rfl rfl (by unfold maxLen; omega) (by omega) ?_
          intro v9 w9 Hs9 hv9 hw9 _
          show K (Act.put _ (some 29) v9) w9
          go_simp
          refine hK _ _ (fun _ => hw9.right) ?_
          clear hK K
          refine held_seg false [false,false,false,false,false,false,false,false,false,false,false,true] 0 (by kernel_rfl) hw9.right ?_
          simp only [pickB]
          repeat (go_big_quiet_step (fail))
          refine wpQuiet_nil ?_
          refine held_done (by kernel_rfl) ?_ _
          go_wp2
          refine ⟨⟨k + 1, Hs9, by omega, by go_num, ?_, hw9.sub (List.Sublist.append_left (List.sublist_cons_self _ _) _)⟩, by simp [intOf]; omega⟩
          rw [HX.out, ← word_val]
          exact hv9
        · obtain rfl : k = la.length := by omega
          rw [List.take_length] at hvo
          go_wp2_with fail
          refine (join_words S _ H Hs hwr _ la hvo HN.out hlen hl128).mono ?_
          rintro e w3 ⟨rfl, hw3⟩
          go_wp2
          go_ret2
          rw [HT.out]
          exact ⟨rfl, hw3⟩

end Go.Proofs.YtifeapnhemolgaaGreatDoor.Wk
