/- The specification's put. -/
import Derived.Test.YtifeapnhemolgaaWf
namespace Go.Proofs.Ytifeapnhemolgaa.Wk
open Go Go.RowKit Go.Proofs.Ytifeapnhemolgaa.HL Go.Proofs.Ytifeapnhemolgaa.Pl

/-- The cells of numbers. -/
def inc (l : List Int) : List Value := l.map fun x => .int .i64 x

theorem inc_get {l : List Int} {i : Nat} (h : i < l.length) : (inc l)[i]? = some (.int .i64 l[i]) := by simp [inc, h]

theorem int_cell {S w : World} {H : Hp} {b off : Nat} {l : List Int} (hw : Has S w H) (hr : RowAt H b off (inc l)) {i : Nat} (h : i < l.length) : w.cell? ⟨b, off + i, none⟩ = some (.int .i64 l[i]) :=
  hr.cell hw (inc_get h)

theorem int_form {E : TypeId} {sz n : Nat} {v : Value} {xs : List Value} {Hs : Hp} (h : SlR E sz v n xs Hs) : ∃ ao cap, v = .slice ao n cap := by
  obtain ⟨_, ⟨rfl, rfl, _⟩ | ⟨b, off, cap, c, rfl, _⟩⟩ := h
  · exact ⟨_, _, rfl⟩
  · exact ⟨_, _, rfl⟩

theorem inc_one (l : List Int) (x : Int) : inc l ++ #[Value.int .i64 x].toList = inc (l ++ [x]) := by simp [inc]

/-- A new list of numbers is handed back. -/
def MadeI (S : World) (H : Hp) (out : List Int) (e : Ending) (w' : World) : Prop :=
  ∃ v Hs, e = .returned v ∧ SlR 3 1 v out.length (inc out) Hs ∧ Has S w' (Hs ++ H)

set_option maxHeartbeats 3200000 in
set_option maxRecDepth 100000 in
theorem put_calls (S w : World) (H : Hp) (hw : Has S w H) (va : Value) (l : List Int) (ha : SlIn H 1 va l.length (inc l)) (x : Int) (hm : l.length ≤ 100000) :
    Calls Try.prog 52 #[va, .int .i64 x] w (MadeI S H (putL l x)) := by
  obtain ⟨i0, hi, hz0, hz1, hz2⟩ := info_parts infoInt
  obtain ⟨_, aa, ca, rfl, hca, hra⟩ := ha
  go_enter Try.func52, Try.ntmps52
  go_wp2
  go_loopw [5, 6, 7] (fun v d i wr => ∃ k : Nat, k ≤ l.length ∧ i = .int .i64 k ∧ ∃ out done Hs, Hid ((out, done) = (l.take k).foldl (putStep x) ([], false)) ∧ d = .bool done ∧ out.length ≤ 2 * k ∧ SlR 3 1 v out.length (inc out) Hs ∧ Has S wr (Hs ++ H)) (fun _ _ i _ => l.length - (intOf i).toNat)
  case atStart => exact ⟨0, Nat.zero_le _, rfl, [], false, [], rfl, rfl, by simp, SlR.nil _ _, hw⟩
  case round =>
    obtain ⟨k, hk, rfl, out, done, Hs, ho, rfl, hlo, hv, hw1⟩ := hrel
    by_cases hlt : k < l.length
    · obtain ⟨ba, oa, rfl, ra⟩ := hra (by omega)
      have ga : Hid (∀ w' Hs', Has S w' (Hs' ++ H) → w'.cell? ⟨ba, oa + k, none⟩ = some (.int .i64 l[k])) := fun w' Hs' h => int_cell h (ra.mono fun p hp => List.mem_append_right _ hp) hlt
      have a0 := ga.out _ _ hw1
      obtain ⟨ao, cap, rfl⟩ := int_form hv
      have hstep : Hid (putStep x (out, done) l[k] = (l.take (k + 1)).foldl (putStep x) ([], false)) := by
        unfold Hid
        rw [List.take_succ_eq_append_getElem hlt, List.foldl_append, ← ho.out]
        rfl
      clear ho
      generalize l[k] = y at *
      cases done with
      | false =>
        by_cases h1 : x ≤ y
        · by_cases h2 : y = x
          · have n2 : (y != x) = false := by simp [h2]
            have e : putStep x (out, false) y = (out ++ [x], true) := by simp [putStep, h2]
            have E := Lib.hid e
            clear e h2
            go_wp2_with (at_builtin; refine wpList_append_lit (S := S) rfl _ _ 43 rfl Try.underlying43 hi hz0 hz1 hz2 rfl (by decide) rfl rfl (by simp) hv hw1 rfl rfl (by unfold maxLen; omega) (by omega) ?_; intro v2 w2 Hs2 hv2 hw2 _; rw [inc_one] at hv2; have a2 := ga.out _ _ hw2)
            exact ⟨⟨k + 1, by omega, by go_num, out ++ [x], true, Hs2, E.out.symm.trans hstep.out, rfl, by simp; omega, by simpa using hv2, hw2⟩, by simp [intOf]; omega⟩
          · have n2 : (y != x) = true := by simp [h2]
            have e : putStep x (out, false) y = (out ++ [x] ++ [y], true) := by simp [putStep, h1, h2]
            have E := Lib.hid e
            clear e h2
            go_wp2_with (at_builtin; first | (refine wpList_append_lit (S := S) rfl _ _ 43 rfl Try.underlying43 hi hz0 hz1 hz2 rfl (by decide) rfl rfl (by simp) hv2 hw2 rfl rfl (by unfold maxLen; omega) (by omega) ?_; intro v3 w3 Hs3 hv3 hw3 _; rw [inc_one] at hv3) | (refine wpList_append_lit (S := S) rfl _ _ 43 rfl Try.underlying43 hi hz0 hz1 hz2 rfl (by decide) rfl rfl (by simp) hv hw1 rfl rfl (by unfold maxLen; omega) (by omega) ?_; intro v2 w2 Hs2 hv2 hw2 _; rw [inc_one] at hv2; have a2 := ga.out _ _ hw2))
            exact ⟨⟨k + 1, by omega, by go_num, out ++ [x] ++ [y], true, Hs3, E.out.symm.trans hstep.out, rfl, by simp; omega, by simpa using hv3, hw3⟩, by simp [intOf]; omega⟩
        · have n2 : (y != x) = true := by simp; omega
          have e : putStep x (out, false) y = (out ++ [y], false) := by simp [putStep, h1, show ¬ y = x by omega]
          have E := Lib.hid e
          clear e
          go_wp2_with (at_builtin; refine wpList_append_lit (S := S) rfl _ _ 43 rfl Try.underlying43 hi hz0 hz1 hz2 rfl (by decide) rfl rfl (by simp) hv hw1 rfl rfl (by unfold maxLen; omega) (by omega) ?_; intro v2 w2 Hs2 hv2 hw2 _; rw [inc_one] at hv2; have a2 := ga.out _ _ hw2)
          exact ⟨⟨k + 1, by omega, by go_num, out ++ [y], false, Hs2, E.out.symm.trans hstep.out, rfl, by simp; omega, by simpa using hv2, hw2⟩, by simp [intOf]; omega⟩
      | true =>
        by_cases h2 : y = x
        · have n2 : (y != x) = false := by simp [h2]
          have e : putStep x (out, true) y = (out, true) := by simp [putStep, h2]
          have E := Lib.hid e
          clear e h2
          go_wp2
          exact ⟨⟨k + 1, by omega, by go_num, out, true, Hs, E.out.symm.trans hstep.out, rfl, by omega, hv, hw1⟩, by simp [intOf]; omega⟩
        · have n2 : (y != x) = true := by simp [h2]
          have e : putStep x (out, true) y = (out ++ [y], true) := by simp [putStep, h2]
          have E := Lib.hid e
          clear e h2
          go_wp2_with (at_builtin; refine wpList_append_lit (S := S) rfl _ _ 43 rfl Try.underlying43 hi hz0 hz1 hz2 rfl (by decide) rfl rfl (by simp) hv hw1 rfl rfl (by unfold maxLen; omega) (by omega) ?_; intro v2 w2 Hs2 hv2 hw2 _; rw [inc_one] at hv2; have a2 := ga.out _ _ hw2)
          exact ⟨⟨k + 1, by omega, by go_num, out ++ [y], true, Hs2, E.out.symm.trans hstep.out, rfl, by simp; omega, by simpa using hv2, hw2⟩, by simp [intOf]; omega⟩
    · obtain rfl : k = l.length := by omega
      have hs : Hid ((out, done) = l.foldl (putStep x) ([], false)) := by
        have := ho.out
        rw [List.take_length] at this
        exact this
      obtain ⟨ao, cap, rfl⟩ := int_form hv
      cases done with
      | false =>
        have hp : Hid (putL l x = out ++ [x]) := by
          unfold Hid putL
          rw [← hs.out]
          rfl
        go_wp2_with (at_builtin; refine wpList_append_lit (S := S) rfl _ _ 43 rfl Try.underlying43 hi hz0 hz1 hz2 rfl (by decide) rfl rfl (by simp) hv hw1 rfl rfl (by unfold maxLen; omega) (by omega) ?_; intro v2 w2 Hs2 hv2 hw2 _; rw [inc_one] at hv2)
        go_ret
        exact ⟨_, Hs2, rfl, by rw [hp.out]; simpa using hv2, hw2⟩
      | true =>
        have hp : Hid (putL l x = out) := by
          unfold Hid putL
          rw [← hs.out]
          rfl
        go_wp2
        go_ret
        exact ⟨_, Hs, rfl, by rw [hp.out]; exact hv, hw1⟩

end Go.Proofs.Ytifeapnhemolgaa.Wk
