/- Looking through spans: members, the specification's sets, predicates, ranks. -/
import Derived.Test.YtifeapnhemolgaaGreatDoorWc
namespace Go.Proofs.YtifeapnhemolgaaGreatDoor.Wk
open Go Go.RowKit Go.Proofs.YtifeapnhemolgaaGreatDoor.HL Go.Proofs.YtifeapnhemolgaaGreatDoor.Pl






































/-- The first place at which p holds, or -1. -/
def idxP (p : Sp → Bool) (l : List Sp) : Int := match l.findIdx? p with | some i => i | none => -1

set_option maxHeartbeats 1600000 in
theorem index_calls (S w : World) (H : Hp) (hw : Has S w H) (va : Value) (la : List Sp) (ha : SlIn H 2 va la.length (spc la)) (hm : la.length ≤ 1000000) (g : Nat) (cb : Array Value) (p : Sp → Bool)
    (eg : ∀ args w, (callFunc g args).run Tryz.prog w = .ok (.enter g args) w)
    (hp : ∀ s w', Below w.heap.size w w' → Calls Tryz.prog g (#[.agg #[.int .i64 s.lo, .int .i64 s.hi]] ++ cb) w' fun e w'' => e = .returned (.bool (p s)) ∧ Below w'.heap.size w' w'') :
    Calls Tryz.prog 74 #[va, .func (.func g) #[] cb] w fun e w' => e = .returned (.int .i64 (idxP p la)) ∧ Below w.heap.size w w' := by
  obtain ⟨_, aa, ca, rfl, hca, hra⟩ := ha
  have HP := Lib.hid hp
  clear hp
  go_enter Tryz.func74, Tryz.ntmps74
  go_wp2
  go_loopw [8] (fun i wr => ∃ k : Nat, k ≤ la.length ∧ i = .int .i64 k ∧ Hid (∀ j, (hj : j < la.length) → j < k → p la[j] = false) ∧ Below w.heap.size w wr) (fun i _ => la.length - (intOf i).toNat)
  case atStart => exact ⟨0, Nat.zero_le _, rfl, by simp [Hid], Below.refl _ _⟩
  case round =>
    obtain ⟨k, hk, rfl, he, hB⟩ := hrel
    have hw1 := hw.below hB
    by_cases hlt : k < la.length
    · obtain ⟨ba, oa, rfl, ra⟩ := hra (by omega)
      obtain ⟨a0, a1⟩ := sp_cells hw1 ra (List.getElem?_eq_getElem hlt)
      have c := HP.out la[k] wr hB
      by_cases hpk : p la[k] = true
      · have hf : Hid (idxP p la = (k : Int)) := by
          have : la.findIdx? p = some k := by
            rw [List.findIdx?_eq_some_iff_getElem]
            exact ⟨hlt, hpk, fun j hj => by simpa using he.out j (by omega) hj⟩
          simp [Hid, idxP, this]
        rw [hpk] at c
        have C := Lib.hid c
        clear c
        go_wp2_with (refine C.out.mono ?_; rintro e w' ⟨rfl, hb⟩)
        go_ret
        exact ⟨by rw [hf.out]; rfl, hB.trans (hb.mono hB.size)⟩
      · have hpk : p la[k] = false := by simpa using hpk
        rw [hpk] at c
        have C := Lib.hid c
        clear c
        go_wp2_with (refine C.out.mono ?_; rintro e w' ⟨rfl, hb⟩)
        refine ⟨⟨k + 1, by omega, by go_num, fun j hj h => ?_, hB.trans (hb.mono hB.size)⟩, by simp [intOf]; omega⟩
        by_cases e : j = k
        · subst e; exact hpk
        · exact he.out j hj (by omega)
    · have hf : Hid (idxP p la = -1) := by
        have : la.findIdx? p = none := by
          rw [List.findIdx?_eq_none_iff]
          intro s hs
          obtain ⟨j, hj, rfl⟩ := List.getElem_of_mem hs
          exact he.out j hj (by omega)
        simp [Hid, idxP, this]
      go_wp2
      go_ret
      exact ⟨by rw [hf.out]; rfl, hB⟩

theorem contains_calls (S w : World) (H : Hp) (hw : Has S w H) (va : Value) (la : List Sp) (ha : SlIn H 2 va la.length (spc la)) (hm : la.length ≤ 1000000) (g : Nat) (cb : Array Value) (p : Sp → Bool)
    (eg : ∀ args w, (callFunc g args).run Tryz.prog w = .ok (.enter g args) w)
    (hp : ∀ s w', Below w.heap.size w w' → Calls Tryz.prog g (#[.agg #[.int .i64 s.lo, .int .i64 s.hi]] ++ cb) w' fun e w'' => e = .returned (.bool (p s)) ∧ Below w'.heap.size w' w'') :
    Calls Tryz.prog 53 #[va, .func (.func g) #[] cb] w fun e w' => e = .returned (.bool (la.any p)) ∧ Below w.heap.size w w' := by
  have hi := index_calls S w H hw va la ha hm g cb p eg hp
  have hv : Hid (decide (0 ≤ idxP p la) = la.any p) := by
    unfold Hid idxP
    cases h : la.findIdx? p with
    | none =>
      rw [List.findIdx?_eq_none_iff] at h
      symm
      simp
      exact h
    | some i =>
      rw [List.findIdx?_eq_some_iff_getElem] at h
      obtain ⟨hi, hp, _⟩ := h
      simp
      exact ⟨_, List.getElem_mem hi, hp⟩
  generalize idxP p la = r at *
  generalize la.any p = q at *
  have HI := Lib.hid hi
  clear hi hp eg ha
  go_enter Tryz.func53, Tryz.ntmps53
  go_wp2_with (go_at_call 74; refine HI.out.mono ?_; rintro e w' ⟨rfl, hb⟩)
  go_ret
  exact ⟨by rw [← hv.out]; rfl, hb⟩

end Go.Proofs.YtifeapnhemolgaaGreatDoor.Wk
