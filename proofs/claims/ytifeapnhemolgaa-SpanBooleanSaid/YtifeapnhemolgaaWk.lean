/- Spans shrunk. -/
import Derived.Test.YtifeapnhemolgaaWj
namespace Go.Proofs.Ytifeapnhemolgaa.Wk
open Go Go.RowKit Go.Proofs.Ytifeapnhemolgaa.HL Go.Proofs.Ytifeapnhemolgaa.Pl

theorem shrinkS_length (r : Int) (s : Sp) : (shrinkS r s).length ≤ 1 := by
  unfold shrinkS
  dsimp only
  generalize (if s.hi < 1099511627776 then s.hi - r else s.hi) = y
  generalize (if -1099511627776 < s.lo then s.lo + r else s.lo) = x
  split <;> simp

theorem spc_cons (out : List Sp) (x y : Int) : spc out ++ #[Value.int .i64 x, Value.int .i64 y].toList = spc (out ++ [⟨x, y⟩]) := by simp [spc]

set_option maxHeartbeats 3200000 in
set_option maxRecDepth 100000 in
theorem shrink_calls (S w : World) (H : Hp) (hw : Has S w H) (va : Value) (la : List Sp) (ha : SlIn H 2 va la.length (spc la)) (r : Int) :
    Calls Try.prog 24 #[va, .int .i64 r] w (MadeE S H (shrinkOut la r) (tolErr la r)) := by
  have hrad := radius_calls S w H hw va la ha r
  obtain ⟨i0, hi, hz0, hz1, hz2⟩ := info_parts infoSp
  by_cases ht : tol la r = true
  · have ht' := ht
    simp only [tol, Bool.and_eq_true, decide_eq_true_eq] at ht'
    obtain ⟨hset, hr0, hr1⟩ := ht'
    have hset' := hset
    simp only [isSet, Bool.and_eq_true, decide_eq_true_eq] at hset'
    obtain ⟨hlen, hch⟩ := hset'
    have hok : Hid (∀ s, s ∈ la → s.ok = true) := ok_of_chain hch
    have e1 : (isSet la && decide (0 ≤ r ∧ r ≤ 1099511627776)) = true := ht
    rw [e1] at hrad
    have HR := Lib.hid hrad
    have HT : Hid (shrinkOut la r = shrinkL r la ∧ tolErr la r = 0) := by simp [Hid, shrinkOut, tolErr, ht]
    clear hrad ht e1 hset hch
    obtain ⟨_, aa, ca, rfl, hca, hra⟩ := ha
    go_enter Try.func24, Try.ntmps24
    go_wp2_with fail
    refine HR.out.mono ?_
    rintro e w1 ⟨rfl, hB⟩
    have hw1 := hw.below hB
    go_wp2
    go_loopw [6, 15] (fun v i wr => ∃ k : Nat, k ≤ la.length ∧ i = .int .i64 k ∧ ∃ out Hs, Hid (out = (la.take k).flatMap (shrinkS r)) ∧ out.length ≤ k ∧ SlR 37 2 v out.length (spc out) Hs ∧ Has S wr (Hs ++ H)) (fun _ i _ => la.length - (intOf i).toNat)
    case atStart => exact ⟨0, Nat.zero_le _, rfl, [], [], rfl, Nat.le_refl _, SlR.nil _ _, hw1⟩
    case round =>
      obtain ⟨k, hk, rfl, out, Hs, ho, hlo, hv, hw2⟩ := hrel
      by_cases hlt : k < la.length
      · obtain ⟨ba, oa, rfl, ra⟩ := hra (by omega)
        obtain ⟨a0, a1⟩ := sp_cells hw2 (ra.mono fun p hp => List.mem_append_right _ hp) (List.getElem?_eq_getElem hlt)
        obtain ⟨k1, k2, k3⟩ := ok_bounds (hok.out la[k] (List.getElem_mem hlt))
        obtain ⟨ao, cap, rfl⟩ := sl_form hv
        have hstep : Hid (out ++ shrinkS r la[k] = (la.take (k + 1)).flatMap (shrinkS r)) := by
          unfold Hid
          rw [List.take_succ_eq_append_getElem hlt, List.flatMap_append, ← ho.out]
          simp
        have hl1 := shrinkS_length r la[k]
        generalize hs : la[k] = s at *
        clear hs
        by_cases h1 : -1099511627776 < s.lo
        · by_cases h2 : s.hi < 1099511627776
          · by_cases h3 : s.lo + r < s.hi - r
            · have e : shrinkS r s = [⟨s.lo + r, s.hi - r⟩] := by unfold shrinkS; simp only [h1, h2, h3, if_true]
              rw [e] at hstep
              clear hl1 e
              go_wp2_with (at_builtin; refine wpList_append_lit (S := S) rfl _ _ 22 rfl Try.underlying22 hi hz0 hz1 hz2 rfl (by decide) rfl rfl (by simp) hv (hw2.more _) rfl rfl (by unfold maxLen; omega) (by omega) ?_; intro v' w7 Hs' hv' hw7 _)
              rw [spc_cons out] at hv'
              exact ⟨⟨k + 1, by omega, by go_num, _, Hs', hstep.out, by simp; omega, by simpa using hv', hw7⟩, by simp [intOf]; omega⟩
            · have e : shrinkS r s = [] := by unfold shrinkS; simp only [h1, h2, h3, if_true, if_false]
              rw [e] at hstep
              clear hl1 e
              go_wp2
              exact ⟨⟨k + 1, by omega, by go_num, _, Hs, hstep.out, by simp; omega, by simpa using hv, hw2.more _⟩, by simp [intOf]; omega⟩
          · by_cases h3 : s.lo + r < s.hi
            · have e : shrinkS r s = [⟨s.lo + r, s.hi⟩] := by unfold shrinkS; simp only [h1, h2, h3, if_true, if_false]
              rw [e] at hstep
              clear hl1 e
              go_wp2_with (at_builtin; refine wpList_append_lit (S := S) rfl _ _ 22 rfl Try.underlying22 hi hz0 hz1 hz2 rfl (by decide) rfl rfl (by simp) hv (hw2.more _) rfl rfl (by unfold maxLen; omega) (by omega) ?_; intro v' w7 Hs' hv' hw7 _)
              rw [spc_cons out] at hv'
              exact ⟨⟨k + 1, by omega, by go_num, _, Hs', hstep.out, by simp; omega, by simpa using hv', hw7⟩, by simp [intOf]; omega⟩
            · have e : shrinkS r s = [] := by unfold shrinkS; simp only [h1, h2, h3, if_true, if_false]
              rw [e] at hstep
              clear hl1 e
              go_wp2
              exact ⟨⟨k + 1, by omega, by go_num, _, Hs, hstep.out, by simp; omega, by simpa using hv, hw2.more _⟩, by simp [intOf]; omega⟩
        · by_cases h2 : s.hi < 1099511627776
          · by_cases h3 : s.lo < s.hi - r
            · have e : shrinkS r s = [⟨s.lo, s.hi - r⟩] := by unfold shrinkS; simp only [h1, h2, h3, if_true, if_false]
              rw [e] at hstep
              clear hl1 e
              go_wp2_with (at_builtin; refine wpList_append_lit (S := S) rfl _ _ 22 rfl Try.underlying22 hi hz0 hz1 hz2 rfl (by decide) rfl rfl (by simp) hv (hw2.more _) rfl rfl (by unfold maxLen; omega) (by omega) ?_; intro v' w7 Hs' hv' hw7 _)
              rw [spc_cons out] at hv'
              exact ⟨⟨k + 1, by omega, by go_num, _, Hs', hstep.out, by simp; omega, by simpa using hv', hw7⟩, by simp [intOf]; omega⟩
            · have e : shrinkS r s = [] := by unfold shrinkS; simp only [h1, h2, h3, if_true, if_false]
              rw [e] at hstep
              clear hl1 e
              go_wp2
              exact ⟨⟨k + 1, by omega, by go_num, _, Hs, hstep.out, by simp; omega, by simpa using hv, hw2.more _⟩, by simp [intOf]; omega⟩
          · by_cases h3 : s.lo < s.hi
            · have e : shrinkS r s = [⟨s.lo, s.hi⟩] := by unfold shrinkS; simp only [h1, h2, h3, if_true, if_false]
              rw [e] at hstep
              clear hl1 e
              go_wp2_with (at_builtin; refine wpList_append_lit (S := S) rfl _ _ 22 rfl Try.underlying22 hi hz0 hz1 hz2 rfl (by decide) rfl rfl (by simp) hv (hw2.more _) rfl rfl (by unfold maxLen; omega) (by omega) ?_; intro v' w7 Hs' hv' hw7 _)
              rw [spc_cons out] at hv'
              exact ⟨⟨k + 1, by omega, by go_num, _, Hs', hstep.out, by simp; omega, by simpa using hv', hw7⟩, by simp [intOf]; omega⟩
            · omega
      · obtain rfl : k = la.length := by omega
        have hl : Hid (out = shrinkL r la) := by
          have := ho.out
          rw [List.take_length] at this
          exact this
        go_wp2
        go_ret2
        rw [HT.out.1, HT.out.2]
        exact ⟨_, Hs, rfl, by rw [← hl.out]; exact hv, hw2⟩
  · have ht' : tol la r = false := by simpa using ht
    have e1 : (isSet la && decide (0 ≤ r ∧ r ≤ 1099511627776)) = false := ht'
    rw [e1] at hrad
    have HR := Lib.hid hrad
    have HT : Hid (shrinkOut la r = [] ∧ tolErr la r = 2) := by simp [Hid, shrinkOut, tolErr, ht']
    clear hrad ht ht' e1
    go_enter Try.func24, Try.ntmps24
    go_wp2_with (go_at_call 39; refine HR.out.mono ?_; rintro e w1 ⟨rfl, hB⟩)
    go_ret2
    rw [HT.out.1, HT.out.2]
    exact MadeE.fail (hw.below hB)

end Go.Proofs.Ytifeapnhemolgaa.Wk
