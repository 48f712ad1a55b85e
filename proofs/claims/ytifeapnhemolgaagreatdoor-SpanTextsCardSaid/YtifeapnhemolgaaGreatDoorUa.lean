/- Nth. -/
import Derived.Test.YtifeapnhemolgaaGreatDoorWr
import Derived.Test.YtifeapnhemolgaaGreatDoorQc
namespace Go.Proofs.YtifeapnhemolgaaGreatDoor.Wk
open Go Go.RowKit Go.Proofs.YtifeapnhemolgaaGreatDoor.HL Go.Proofs.YtifeapnhemolgaaGreatDoor.Pl

def nthV (l : List Sp) (i : Int) : Int := if isSet l = true ∧ 0 ≤ i ∧ i < sizeP l then (nthL l i).getD 0 else 0
def nthE (l : List Sp) (i : Int) : Int := if isSet l = true then (if 0 ≤ i ∧ i < sizeP l then 0 else 6) else 2

theorem drop_nth {l : List Sp} {k : Nat} (h : k < l.length) (j : Int) : nthL (l.drop k) j = if j < l[k].hi - l[k].lo then some (l[k].lo + j) else nthL (l.drop (k + 1)) (j - (l[k].hi - l[k].lo)) := by
  rw [List.drop_eq_getElem_cons h, nthL]

set_option maxHeartbeats 1600000 in
theorem nth_calls (S w : World) (H : Hp) (hw : Has S w H) (va : Value) (la : List Sp) (ha : SlIn H 2 va la.length (spc la)) (i : Int) :
    Calls Tryz.prog 17 #[va, .int .i64 i] w fun e w' => e = .returned (.tuple #[.int .i64 (nthV la i), .int .i64 (nthE la i)]) ∧ Below w.heap.size w w' := by
  have hv := size_calls S w H hw va la ha
  obtain ⟨_, aa, ca, rfl, hca, hra⟩ := ha
  cases hsa : isSet la with
  | false =>
    have HT : Hid (nthV la i = 0 ∧ nthE la i = 2) := by simp [Hid, nthV, nthE, hsa]
    rw [show rankV 1099511627776 la = 0 by simp [rankV, hsa], show setE la = 2 by simp [setE, hsa]] at hv
    have HV := Lib.hid hv
    clear hv hsa
    go_enter Tryz.func17, Tryz.ntmps17
    go_wp2_with fail
    refine HV.out.mono ?_
    rintro e w2 ⟨rfl, hB2⟩
    go_wp2
    go_ret2
    rw [HT.out.1, HT.out.2]
    exact ⟨rfl, hB2⟩
  | true =>
    obtain ⟨_, hla, hok, _⟩ := set_sep hsa
    rw [show rankV 1099511627776 la = sizeP la by simp [rankV, hsa, sizeP], show setE la = 0 by simp [setE, hsa]] at hv
    have hsz : 0 ≤ sizeP la ∧ sizeP la ≤ 2199023255552 * la.length := rankP_le hok _
    have HV := Lib.hid hv
    clear hv
    by_cases h0 : 0 ≤ i
    · by_cases h1 : i < sizeP la
      · have HT : Hid (nthV la i = (nthL la i).getD 0 ∧ nthE la i = 0) := by simp [Hid, nthV, nthE, hsa, h0, h1]
        have HN : Hid (nthL la i ≠ none) := fun h => by have := (nth_none hok i h0).1 h; omega
        have HK := Lib.hid hok
        clear hsa hok
        generalize sizeP la = n at *
        go_enter Tryz.func17, Tryz.ntmps17
        go_wp2_with fail
        refine HV.out.mono ?_
        rintro e w2 ⟨rfl, hB2⟩
        go_wp2
        go_loopw [1, 29] (fun j c wr => ∃ (k : Nat) (z : Int), k ≤ la.length ∧ c = .int .i64 k ∧ j = .int .i64 z ∧ 0 ≤ z ∧ z ≤ i ∧ Hid (nthL (la.drop k) z = nthL la i) ∧ Below w.heap.size w wr) (fun _ c _ => la.length - (intOf c).toNat)
        case atStart => exact ⟨0, i, Nat.zero_le _, rfl, rfl, h0, Int.le_refl _, rfl, hB2⟩
        case round =>
          obtain ⟨k, z, hk, rfl, rfl, hz0, hz1, hz, hB⟩ := hrel
          by_cases hlt : k < la.length
          · obtain ⟨b, o, rfl, ra⟩ := hra (by omega)
            obtain ⟨a0, a1⟩ := sp_cells (hw.below hB) ra (List.getElem?_eq_getElem hlt)
            obtain ⟨k1, k2, k3⟩ := ok_bounds (HK.out la[k] (List.getElem_mem hlt))
            have hd := drop_nth hlt z
            rw [hz.out] at hd
            generalize la[k] = s at *
            by_cases hi : z < s.hi - s.lo
            · rw [if_pos hi] at hd
              have HD := Lib.hid hd
              clear hd hz
              go_wp2
              go_ret2
              rw [HT.out.1, HT.out.2, HD.out]
              exact ⟨rfl, hB.alloc hB.size _⟩
            · rw [if_neg hi] at hd
              have HD := Lib.hid hd.symm
              clear hd hz
              have hi2 : s.hi - s.lo ≤ z := by omega
              go_wp2
              go_roundw
              case rel => exact ⟨k + 1, z - (s.hi - s.lo), by omega, by go_num, by go_num, by omega, by omega, HD, hB.alloc hB.size _⟩
              case measure => simp [intOf]; omega
          · exfalso
            obtain rfl : k = la.length := by omega
            rw [List.drop_length] at hz
            exact HN.out hz.out.symm
      · have HT : Hid (nthV la i = 0 ∧ nthE la i = 6) := by simp [Hid, nthV, nthE, hsa, h1]
        have h2 : sizeP la ≤ i := by omega
        generalize sizeP la = n at *
        clear hsa hok
        go_enter Tryz.func17, Tryz.ntmps17
        go_wp2_with fail
        refine HV.out.mono ?_
        rintro e w2 ⟨rfl, hB2⟩
        go_wp2
        go_ret2
        rw [HT.out.1, HT.out.2]
        exact ⟨rfl, hB2⟩
    · have HT : Hid (nthV la i = 0 ∧ nthE la i = 6) := by simp [Hid, nthV, nthE, hsa, h0]
      have h2 : i < 0 := by omega
      generalize sizeP la = n at *
      clear hsa hok
      go_enter Tryz.func17, Tryz.ntmps17
      go_wp2_with fail
      refine HV.out.mono ?_
      rintro e w2 ⟨rfl, hB2⟩
      go_wp2
      go_ret2
      rw [HT.out.1, HT.out.2]
      exact ⟨rfl, hB2⟩

end Go.Proofs.YtifeapnhemolgaaGreatDoor.Wk
