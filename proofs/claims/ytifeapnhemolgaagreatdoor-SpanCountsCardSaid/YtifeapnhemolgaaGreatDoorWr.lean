/- Rank and Size; the same numbers; the greedy cover; what every right program does. -/
import Derived.Test.YtifeapnhemolgaaGreatDoorWq
import Derived.Test.YtifeapnhemolgaaGreatDoorPg
namespace Go.Proofs.YtifeapnhemolgaaGreatDoor.Wk
open Go Go.RowKit Go.Proofs.YtifeapnhemolgaaGreatDoor.HL Go.Proofs.YtifeapnhemolgaaGreatDoor.Pl

def rankV (x : Int) (l : List Sp) : Int := if isSet l then rankP x l else 0
def setE (l : List Sp) : Int := if isSet l then 0 else 2

set_option maxHeartbeats 1600000 in
theorem rank_calls (S w : World) (H : Hp) (hw : Has S w H) (va : Value) (la : List Sp) (ha : SlIn H 2 va la.length (spc la)) (x : Int) :
    Calls Tryz.prog 16 #[va, .int .i64 x] w fun e w' => e = .returned (.tuple #[.int .i64 (rankV x la), .int .i64 (setE la)]) ∧ Below w.heap.size w w' := by
  have hv := set_calls S w H hw va la ha
  obtain ⟨_, aa, ca, rfl, hca, hra⟩ := ha
  cases hsa : isSet la with
  | false =>
    have HT : Hid (rankV x la = 0 ∧ setE la = 2) := by simp [Hid, rankV, setE, hsa]
    rw [hsa] at hv
    have HV := Lib.hid hv
    clear hv hsa
    go_enter Tryz.func16, Tryz.ntmps16
    go_wp2_with fail
    refine HV.out.mono ?_
    rintro e w2 ⟨rfl, hB2⟩
    go_wp2
    go_ret2
    rw [HT.out.1, HT.out.2]
    exact ⟨rfl, hB2⟩
  | true =>
    have HT : Hid (rankV x la = rankP x la ∧ setE la = 0) := by simp [Hid, rankV, setE, hsa]
    obtain ⟨_, hla, hok, _⟩ := set_sep hsa
    have HK := Lib.hid hok
    rw [hsa] at hv
    have HV := Lib.hid hv
    clear hv hsa hok
    go_enter Tryz.func16, Tryz.ntmps16
    go_wp2_with fail
    refine HV.out.mono ?_
    rintro e w2 ⟨rfl, hB2⟩
    go_wp2
    go_loopw [6, 14] (fun n i wr => ∃ k : Nat, k ≤ la.length ∧ i = .int .i64 k ∧ n = .int .i64 (rankP x (la.take k)) ∧ Below w.heap.size w wr) (fun _ i _ => la.length - (intOf i).toNat)
    case atStart => exact ⟨0, Nat.zero_le _, rfl, rfl, hB2⟩
    case round =>
      obtain ⟨k, hk, rfl, rfl, hB⟩ := hrel
      by_cases hlt : k < la.length
      · obtain ⟨b, o, rfl, ra⟩ := hra (by omega)
        obtain ⟨a0, a1⟩ := sp_cells (hw.below hB) ra (List.getElem?_eq_getElem hlt)
        obtain ⟨k1, k2, k3⟩ := ok_bounds (HK.out la[k] (List.getElem_mem hlt))
        have hle := rankP_le (l := la.take k) (fun s hs => HK.out s (List.mem_of_mem_take hs)) x
        have hlk : (la.take k).length ≤ k := List.length_take_le _ _
        have hnext := Lib.hid (rankP_snoc x la k hlt)
        generalize rankP x (la.take k) = r at *
        generalize hq : la[k] = s at *
        have HQ := Lib.hid hq
        clear hq
        by_cases hx : s.lo < x
        · have hsr : Hid (rankS x s = min x s.hi - s.lo) := by simp [Hid, rankS, hx]
          by_cases hm : x < s.hi
          · have hmin : Hid (min x s.hi = x) := by unfold Hid; omega
            go_wp2
            all_goals
              go_roundw
              case rel => exact ⟨k + 1, by omega, by go_num, by rw [hnext.out, hsr.out, hmin.out], ((hB.alloc hB.size _))⟩
              case measure => simp [intOf]; omega
          · have hmin : Hid (min x s.hi = s.hi) := by unfold Hid; omega
            have hm' : s.hi ≤ x := by omega
            go_wp2
            all_goals
              go_roundw
              case rel => exact ⟨k + 1, by omega, by go_num, by rw [hnext.out, hsr.out, hmin.out], ((hB.alloc hB.size _))⟩
              case measure => simp [intOf]; omega
        · have hsr : Hid (rankS x s = 0) := by simp [Hid, rankS, hx]
          go_wp2
          go_roundw
          case rel => exact ⟨k + 1, by omega, by go_num, by rw [hnext.out, hsr.out, Int.add_zero], ((hB.alloc hB.size _))⟩
          case measure => simp [intOf]; omega
      · obtain rfl : k = la.length := by omega
        rw [List.take_length]
        go_wp2
        go_ret2
        rw [HT.out.1, HT.out.2]
        exact ⟨rfl, hB⟩

theorem size_calls (S w : World) (H : Hp) (hw : Has S w H) (va : Value) (la : List Sp) (ha : SlIn H 2 va la.length (spc la)) :
    Calls Tryz.prog 15 #[va] w fun e w' => e = .returned (.tuple #[.int .i64 (rankV 1099511627776 la), .int .i64 (setE la)]) ∧ Below w.heap.size w w' := by
  have hr := Lib.hid (rank_calls S w H hw va la ha 1099511627776)
  obtain ⟨_, aa, ca, rfl, hca, _⟩ := ha
  go_enter Tryz.func15, Tryz.ntmps15
  go_wp2_with fail
  refine hr.out.mono ?_
  rintro e w2 ⟨rfl, hB2⟩
  go_wp2
  go_ret2
  exact ⟨rfl, hB2⟩

set_option maxHeartbeats 1600000 in
theorem alike_calls (S w : World) (H : Hp) (hw : Has S w H) (va vb : Value) (la lb : List Int) (ha : SlIn H 1 va la.length (inc la)) (hb : SlIn H 1 vb lb.length (inc lb)) (hm : la.length ≤ 1000000) :
    Calls Tryz.prog 21 #[va, vb] w fun e w' => e = .returned (.bool (decide (la = lb))) ∧ Below w.heap.size w w' := by
  obtain ⟨_, aa, ca, rfl, hca, hra⟩ := ha
  obtain ⟨_, ab, cb, rfl, hcb, hrb⟩ := hb
  by_cases hl : la.length = lb.length
  · have hl1 : ((la.length : Int) != (lb.length : Int)) = false := by simp; omega
    have HL := Lib.hid hl
    clear hl
    go_enter Tryz.func21, Tryz.ntmps21
    go_wp2
    go_loopw [5] (fun i wr => ∃ k : Nat, k ≤ la.length ∧ i = .int .i64 k ∧ Hid (la.take k = lb.take k) ∧ Below w.heap.size w wr) (fun i _ => la.length - (intOf i).toNat)
    case atStart => exact ⟨0, Nat.zero_le _, rfl, by simp [Hid], Below.refl _ _⟩
    case round =>
      obtain ⟨k, hk, rfl, he, hB⟩ := hrel
      have hw1 := hw.below hB
      by_cases hlt : k < la.length
      · obtain ⟨ba, oa, rfl, ra⟩ := hra (by omega)
        obtain ⟨bb, ob, rfl, rb⟩ := hrb (by have := HL.out; omega)
        have hlt' : k < lb.length := by have := HL.out; omega
        have a0 := int_cell hw1 ra hlt
        have b0 := int_cell hw1 rb hlt'
        by_cases heq : la[k] = lb[k]
        · rw [← heq] at b0
          have HE := Lib.hid heq
          clear heq
          go_wp2
          go_quiet (fail)
          go_wp2
          refine ⟨⟨k + 1, by omega, by go_num, ?_, (bdrewN hB _)⟩, by simp [intOf]; omega⟩
          show la.take (k + 1) = lb.take (k + 1)
          rw [List.take_succ_eq_append_getElem hlt, List.take_succ_eq_append_getElem hlt', he.out, HE.out]
        · have hne : (la[k] != lb[k]) = true := by simp [heq]
          have hfin : Hid (decide (la = lb) = false) := by
            simp only [Hid, decide_eq_false_iff_not]
            intro h
            subst h
            exact heq rfl
          clear heq
          go_wp2
          go_quiet (fail)
          go_wp2
          go_ret
          exact ⟨by rw [hfin.out]; rfl, bdrewN hB _⟩
      · have hk' : k = la.length := by omega
        have hfin : Hid (decide (la = lb) = true) := by
          have h1 := he.out
          rw [hk', List.take_length, HL.out, List.take_length] at h1
          simp [Hid, h1]
        go_wp2
        go_ret
        exact ⟨by rw [hfin.out]; rfl, hB⟩
  · have hl1 : ((la.length : Int) != (lb.length : Int)) = true := by simp; omega
    have hfin : Hid (decide (la = lb) = false) := by
      simp only [Hid, decide_eq_false_iff_not]
      intro h
      subst h
      exact hl rfl
    clear hl
    go_enter Tryz.func21, Tryz.ntmps21
    go_wp2
    go_ret
    exact ⟨by rw [hfin.out]; rfl, Below.refl _ _⟩

end Go.Proofs.YtifeapnhemolgaaGreatDoor.Wk
