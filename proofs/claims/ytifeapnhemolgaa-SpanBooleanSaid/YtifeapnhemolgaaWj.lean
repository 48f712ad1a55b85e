/- Tolerances: spans grown and shrunk. -/
import Derived.Test.YtifeapnhemolgaaWi
namespace Go.Proofs.Ytifeapnhemolgaa.Wk
open Go Go.RowKit Go.Proofs.Ytifeapnhemolgaa.HL Go.Proofs.Ytifeapnhemolgaa.Pl

theorem spc_set2 (l : List Sp) (k : Nat) (h : k < l.length) (x y : Int) : ((spc l).set (k * 2) (.int .i64 x)).set (k * 2 + 1) (.int .i64 y) = spc (l.set k ⟨x, y⟩) := by
  induction l generalizing k with
  | nil => simp at h
  | cons t l ih =>
    have e1 : ∀ (a : Sp) (m : List Sp), spc (a :: m) = .int .i64 a.lo :: .int .i64 a.hi :: spc m := fun a m => by simp [spc]
    cases k with
    | zero => simp [spc]
    | succ k =>
      have e := ih k (by simpa using h)
      rw [List.set_cons_succ, e1, e1, ← e, show (k + 1) * 2 = k * 2 + 1 + 1 by omega]
      rfl

/-- The first k spans are grown. -/
def grownTo (r : Int) (l : List Sp) (k : Nat) : List Sp := (l.take k).map (growS r) ++ l.drop k

theorem grownTo_length (r : Int) (l : List Sp) (k : Nat) : (grownTo r l k).length = l.length := by simp [grownTo]; omega

theorem grownTo_get {r : Int} {l : List Sp} {k : Nat} (h : k < l.length) : (grownTo r l k)[k]? = some l[k] := by
  unfold grownTo
  rw [List.getElem?_append_right (by simp; omega)]
  simp only [List.length_map, List.length_take, List.getElem?_drop]
  rw [show k + (k - min k l.length) = k by omega]
  exact List.getElem?_eq_getElem h

theorem grownTo_succ {r : Int} {l : List Sp} {k : Nat} (h : k < l.length) : (grownTo r l k).set k (growS r l[k]) = grownTo r l (k + 1) := by
  unfold grownTo
  rw [List.set_append_right _ _ (by simp; omega)]
  have e : k - ((l.take k).map (growS r)).length = 0 := by simp; omega
  rw [e, List.drop_eq_getElem_cons h, List.set_cons_zero, List.take_succ_eq_append_getElem h, List.map_append]
  simp

/-- The call hands back a new list of spans and an error, and leaves the rest as it is. -/
def MadeE (S : World) (H : Hp) (out : List Sp) (err : Int) (e : Ending) (w' : World) : Prop :=
  ∃ v Hs, e = .returned (.tuple #[v, .int .i64 err]) ∧ SlR 37 2 v out.length (spc out) Hs ∧ Has S w' (Hs ++ H)

theorem MadeE.fail {S w : World} {H : Hp} {err : Int} (hw : Has S w H) : MadeE S H [] err (.returned (.tuple #[.slice none 0 0, .int .i64 err])) w := ⟨_, [], rfl, SlR.nil _ _, hw⟩

theorem has_ends {S W : World} {G : Hp} {a b : Addr} {s : Sp} {x y : Int} (h : Has S ((W.setCell a (.int .i64 s.lo)).setCell b (.int .i64 s.hi)) G) (hx : s.lo = x) (hy : s.hi = y) : Has S ((W.setCell a (.int .i64 x)).setCell b (.int .i64 y)) G := by
  subst hx
  subst hy
  exact h

theorem max_of (a b : Int) : (if a < b then b else a) = max a b := by split <;> omega
theorem min_of (a b : Int) : (if b < a then b else a) = min a b := by split <;> omega

set_option maxHeartbeats 3200000 in
set_option maxRecDepth 100000 in
theorem grow_calls (S w : World) (H : Hp) (hw : Has S w H) (va : Value) (la : List Sp) (ha : SlIn H 2 va la.length (spc la)) (r : Int) :
    Calls Try.prog 23 #[va, .int .i64 r] w (MadeE S H (growOut la r) (tolErr la r)) := by
  have hrad := radius_calls S w H hw va la ha r
  by_cases ht : tol la r = true
  · have ht' := ht
    simp only [tol, Bool.and_eq_true, decide_eq_true_eq] at ht'
    obtain ⟨hset, hr0, hr1⟩ := ht'
    have hset' := hset
    simp only [isSet, Bool.and_eq_true, decide_eq_true_eq] at hset'
    obtain ⟨hlen, hch⟩ := hset'
    have hok : Hid (∀ s, s ∈ la → s.ok = true) := ok_of_chain hch
    have e1 : (isSet la && decide (0 ≤ r ∧ r ≤ 1099511627776)) = true := ht
    rw [e1] at hrad
    have HR := Lib.hid hrad
    have HT : Hid (growOut la r = growL r la ∧ tolErr la r = 0) := by simp [Hid, growOut, tolErr, ht]
    clear hrad ht e1 hset hch
    go_enter Try.func23, Try.ntmps23
    go_wp2_with fail
    refine HR.out.mono ?_
    rintro e w1 ⟨rfl, hB⟩
    have hw1 := hw.below hB
    go_wp2_with fail
    refine (clone_calls S w1 H hw1 va la ha (by omega)).mono ?_
    rintro e w2 ⟨v, Hs, rfl, hv, hw2⟩
    obtain ⟨ao, cap, rfl⟩ := sl_form hv
    go_wp2
    go_loopw [17] (fun i wr => ∃ k : Nat, k ≤ la.length ∧ i = .int .i64 k ∧ ∃ Hs, SlR 37 2 (.slice ao la.length cap) la.length (spc (grownTo r la k)) Hs ∧ Has S wr (Hs ++ H)) (fun i _ => la.length - (intOf i).toNat)
    case atStart => exact ⟨0, Nat.zero_le _, rfl, Hs, by simpa [grownTo] using hv, hw2⟩
    case round =>
      obtain ⟨k, hk, rfl, Hs1, hv1, hw3⟩ := hrel
      by_cases hlt : k < la.length
      · have hw4 := hw3.more (.cells #[.int .i64 la[k].lo, .int .i64 la[k].hi] 37)
        obtain ⟨b, off, u, v, rfl, c0, c1, f0, f1, Hs', hv', hw5⟩ := sp_store hv1 hw4 hlt (.int .i64 (growS r la[k]).lo) (.int .i64 (growS r la[k]).hi)
        obtain ⟨k1, k2, k3⟩ := ok_bounds (hok.out la[k] (List.getElem_mem hlt))
        obtain ⟨b', off', cap', he, _, hr, _⟩ := hv1.at (by omega)
        simp only [Value.slice.injEq, Option.some.injEq, Addr.mk.injEq] at he
        obtain ⟨⟨rfl, rfl, _⟩, _, rfl⟩ := he
        obtain ⟨a0, a1⟩ := sp_cells hw3 (hr.mono fun p hp => List.mem_append_left _ hp) (grownTo_get hlt)
        rw [spc_set2 _ _ (by rw [grownTo_length]; exact hlt)] at hv'
        have HV := Lib.hid hv'
        have HW := Lib.hid hw5
        have HS := Lib.hid (grownTo_succ (r := r) hlt)
        clear hv' hw5 hv1
        go_wp2
        all_goals
          refine ⟨⟨k + 1, by omega, by go_num, Hs', ?_, has_ends HW.out ?_ ?_⟩, by simp [intOf]; omega⟩
          · rw [← HS.out]; exact HV.out
          · simp only [growS]; omega
          · simp only [growS]; omega
      · obtain rfl : k = la.length := by omega
        have e : grownTo r la la.length = la.map (growS r) := by simp [grownTo]
        rw [e] at hv1
        have hj := joined_calls S wr (Hs1 ++ H) hw3 (.slice ao la.length cap) (la.map (growS r)) (by
          have := hv1.read (H := Hs1 ++ H) (fun p hp => List.mem_append_left _ hp)
          simpa using this) (by simp; omega)
        have HJ := Lib.hid hj
        clear hj
        go_wp2_with (go_at_call 41; refine HJ.out.mono ?_; rintro e w9 ⟨v9, Hs9, rfl, hv9, hw9⟩)
        go_ret2
        rw [HT.out.1, HT.out.2]
        refine ⟨v9, Hs9, rfl, hv9, ?_⟩
        exact hw9.sub (List.Sublist.append_left (List.sublist_append_right _ _) _)
  · have ht' : tol la r = false := by simpa using ht
    have e1 : (isSet la && decide (0 ≤ r ∧ r ≤ 1099511627776)) = false := ht'
    rw [e1] at hrad
    have HR := Lib.hid hrad
    have HT : Hid (growOut la r = [] ∧ tolErr la r = 2) := by simp [Hid, growOut, tolErr, ht']
    clear hrad ht ht' e1
    go_enter Try.func23, Try.ntmps23
    go_wp2_with (go_at_call 39; refine HR.out.mono ?_; rintro e w1 ⟨rfl, hB⟩)
    go_ret2
    rw [HT.out.1, HT.out.2]
    exact MadeE.fail (hw.below hB)

end Go.Proofs.Ytifeapnhemolgaa.Wk
