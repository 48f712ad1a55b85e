/- The greedy cover, along a trace of its steps; what every right program does. -/
import Derived.Test.YtifeapnhemolgaaGreatDoorWr
namespace Go.Proofs.YtifeapnhemolgaaGreatDoor.Wk
open Go Go.RowKit Go.Proofs.YtifeapnhemolgaaGreatDoor.HL Go.Proofs.YtifeapnhemolgaaGreatDoor.Pl

/-- A trace of the cover: where it stands after n steps, which spans were taken, at which numbers. -/
structure Trace (la : List Sp) (lo hi : Int) (tr : Nat → Int × List Int × List Int) (N : Nat) : Prop where
  start : tr 0 = (lo, [], [])
  small : N ≤ 1000
  step : ∀ n, n < N → (tr n).1 < hi ∧ ∃ b s, b < la.length ∧ la[b]? = some s ∧ bestTo la (tr n).1 la.length = ((b : Nat) : Int) ∧ (tr n).1 < s.hi ∧ tr (n + 1) = (s.hi, (tr n).2.1 ++ [(b : Int)], (tr n).2.2 ++ [(tr n).1])
  fin : hi ≤ (tr N).1
  len : ∀ n, n ≤ N → (tr n).2.1.length = n ∧ (tr n).2.2.length = n

theorem best_hit {la : List Sp} {x : Int} {k : Nat} {s : Sp} (hs : la[k]? = some s) (h1 : s.lo ≤ x) (h2 : x < s.hi) (h3 : bestTo la x k < 0 ∨ (match la[(bestTo la x k).toNat]? with | none => 0 | some b => b.hi) < s.hi) : bestTo la x (k + 1) = k := by
  show bestStep la x (bestTo la x k) k = _
  unfold bestStep
  rw [hs]
  exact if_pos ⟨h1, h2, h3⟩

theorem best_miss {la : List Sp} {x : Int} {k : Nat} {s : Sp} (hs : la[k]? = some s) (h : ¬ (s.lo ≤ x ∧ x < s.hi ∧ (bestTo la x k < 0 ∨ (match la[(bestTo la x k).toNat]? with | none => 0 | some b => b.hi) < s.hi))) : bestTo la x (k + 1) = bestTo la x k := by
  show bestStep la x (bestTo la x k) k = _
  unfold bestStep
  rw [hs]
  exact if_neg h

/-- Between two steps. -/
def CovI (S : World) (H : Hp) (t a : List Int) (v u : Value) (w : World) : Prop :=
  ∃ Hs Ht, SlR 3 1 v t.length (inc t) Hs ∧ SlR 3 1 u a.length (inc a) Ht ∧ Has S w (Hs ++ (Ht ++ H))

/-- What covered hands back. -/
def CovE (S : World) (H : Hp) (t a : List Int) (e : Ending) (w : World) : Prop := ∃ v u, e = .returned (.tuple #[v, u, .int .i64 0]) ∧ CovI S H t a v u w

theorem cov_swap {S w : World} {A B C : Hp} (h : Has S w (A ++ (B ++ C))) : Has S w (B ++ (A ++ C)) := h.perm (by
  rw [← List.append_assoc, ← List.append_assoc]
  exact List.Perm.append_right _ List.perm_append_comm)

set_option maxHeartbeats 3200000 in
set_option maxRecDepth 100000 in
theorem covered_calls (S w : World) (H : Hp) (hw : Has S w H) (va : Value) (la : List Sp) (ha : SlIn H 2 va la.length (spc la)) (lo hi : Int) (hok : Sp.ok ⟨lo, hi⟩ = true) (hle : listE la = 0) (tr : Nat → Int × List Int × List Int) (N : Nat) (ht : Trace la lo hi tr N) :
    Calls Tryz.prog 41 #[.agg #[.int .i64 lo, .int .i64 hi], va] w (CovE S H (tr N).2.1 (tr N).2.2) := by
  obtain ⟨i0, hi0, hz0, hz1, hz2⟩ := info_parts infoInt
  have hvd := fun w => valid_calls ⟨lo, hi⟩ w
  rw [hok] at hvd
  have hls := fun w' (h : Has S w' H) => listed_calls S w' H h va la ha
  rw [hle] at hls
  obtain ⟨hlen, hoks⟩ : la.length ≤ 128 ∧ ∀ s, s ∈ la → s.ok = true := by
    rcases listE_cases la with ⟨_, h1, h2⟩ | h | h
    · exact ⟨h1, h2⟩
    · rw [hle] at h; cases h
    · rw [hle] at h; cases h
  obtain ⟨_, aa, ca, rfl, hca, hra⟩ := ha
  have HV := Lib.hid hvd
  have HL := Lib.hid hls
  have HT := Lib.hid ht
  have HK := Lib.hid hoks
  clear hvd hls ht hok hle hoks
  have hw1 := hw.alloc (.cells #[.int .i64 lo, .int .i64 hi] 41)
  go_enter Tryz.func41, Tryz.ntmps41
  go_wp2_with fail
  refine (HV.out _).mono ?_
  rintro e w2 ⟨rfl, hB2⟩
  have hw2 := hw1.below hB2
  go_wp2_with fail
  refine (HL.out _ hw2.tail).mono ?_
  rintro e w3 ⟨rfl, hB3⟩
  have hw3 := hw2.below hB3
  have l0 := hw3.cell (o := 0) List.mem_cons_self rfl
  have l1 := hw3.cell (o := 1) List.mem_cons_self rfl
  obtain ⟨Bt, hBt⟩ : ∃ Bt, w.heap.size = Bt := ⟨_, rfl⟩
  rw [hBt] at hw3 l0 l1 ⊢
  clear hBt
  go_wp2
  go_loopw [4, 5, 8] (fun v u x wr => ∃ n : Nat, n ≤ N ∧ x = .int .i64 (tr n).1 ∧ CovI S ((Bt, .cells #[.int .i64 lo, .int .i64 hi] 41 (0, 0)) :: H) (tr n).2.1 (tr n).2.2 v u wr) (fun _ _ x _ => (hi - intOf x).toNat)
  case atStart =>
    refine ⟨0, Nat.zero_le _, by rw [HT.out.start], [], [], ?_, ?_, hw3⟩
    · rw [HT.out.start]; exact SlR.nil _ _
    · rw [HT.out.start]; exact SlR.nil _ _
  case round =>
    obtain ⟨n, hn, rfl, Hs, Ht, hv, hu, hwI⟩ := hrel
    have hmB : (Bt, Obj.cells #[.int .i64 lo, .int .i64 hi] 41 (0, 0)) ∈ Hs ++ (Ht ++ ((Bt, .cells #[.int .i64 lo, .int .i64 hi] 41 (0, 0)) :: H)) := List.mem_append_right _ (List.mem_append_right _ List.mem_cons_self)
    have m0 := hwI.cell hmB (o := 0) rfl
    have m1 := hwI.cell hmB (o := 1) rfl
    clear l0 l1 hw3 hw2 hw1
    by_cases hx : (tr n).1 < hi
    · have hnN : n < N := by
        rcases Nat.lt_or_ge n N with h | h
        · exact h
        · obtain rfl : n = N := by omega
          have := HT.out.fin
          omega
      obtain ⟨_, b, s, hbl, hsb, hbst, hxs, hnx⟩ := HT.out.step n hnN
      obtain ⟨hl1, hl2⟩ := HT.out.len n hn
      have hsm := HT.out.small
      have HNX := Lib.hid hnx
      clear hnx
      have ht1 : (tr n).2.1.length ≤ 1000 := by omega
      have ht2 : (tr n).2.2.length ≤ 1000 := by omega
      clear hl1 hl2
      generalize (tr n).1 = x at *
      generalize (tr n).2.1 = t at *
      generalize (tr n).2.2 = a at *
      have hbst := Lib.hid hbst
      have HSB := Lib.hid hsb
      clear hsb
      go_wp2
      go_loopw [9, 28] (fun bv i wq => ∃ k : Nat, k ≤ la.length ∧ i = .int .i64 k ∧ bv = .int .i64 (bestTo la x k) ∧ Below wr.heap.size wr wq) (fun _ i _ => la.length - (intOf i).toNat)
      case atStart => exact ⟨0, Nat.zero_le _, rfl, rfl, Below.refl _ _⟩
      case round =>
        obtain ⟨k, hk, rfl, rfl, hBq⟩ := hrel
        by_cases hlt : k < la.length
        · obtain ⟨ab, ao, rfl, ar⟩ := hra (by omega)
          have rar : RowAt (Hs ++ (Ht ++ ((Bt, .cells #[.int .i64 lo, .int .i64 hi] 41 (0, 0)) :: H))) ab ao (spc la) := ar.mono fun p hp => List.mem_append_right _ (List.mem_append_right _ (List.mem_cons_of_mem _ hp))
          have hwq := hwI.below hBq
          obtain ⟨s, hs⟩ : ∃ s, la[k]? = some s := ⟨_, List.getElem?_eq_getElem hlt⟩
          obtain ⟨a0, a1⟩ := sp_cells hwq rar hs
          have hwA := hwq.more (.cells #[.int .i64 s.lo, .int .i64 s.hi] 41)
          have HS := Lib.hid hs
          clear hs
          by_cases hlo : s.lo ≤ x
          · by_cases hhi : x < s.hi
            · rcases bestTo_form la x k with hb | ⟨b, hbk, hb⟩
              · have hnext : Hid (bestTo la x (k + 1) = k) := best_hit HS.out hlo hhi (.inl (by rw [hb]; decide))
                rw [hb]
                clear hb
                have d0 := kept_cell (new_cell wr #[.int .i64 s.lo, .int .i64 s.hi] 41 0 rfl)
                have d1 := kept_cell (new_cell wr #[.int .i64 s.lo, .int .i64 s.hi] 41 1 rfl)
                go_wp2
                refine region_kept (by kernel_rfl) (by kernel_rfl) ?_
                repeat (go_big_quiet_step (fail))
                refine wpQuiet_nil fun w5 hw5 => ?_
                go_wp2
                refine ⟨⟨k + 1, by omega, by go_num, by rw [hnext.out], ?_⟩, by simp [intOf]; omega⟩
                exact (hBq.alloc hBq.size _).trans (hw5.mono (by have := hBq.size; simp; omega))
              · obtain ⟨p, hp⟩ : ∃ p, la[b]? = some p := ⟨_, List.getElem?_eq_getElem (by omega)⟩
                have HP := Lib.hid hp
                clear hp
                by_cases hg : p.hi < s.hi
                · have hnext : Hid (bestTo la x (k + 1) = k) := best_hit HS.out hlo hhi (.inr (by rw [hb, Int.toNat_natCast, HP.out]; exact hg))
                  rw [hb]
                  clear hb
                  have hb0 : decide ((b : Int) < 0) = false := by simp
                  have d0 := kept_cell (new_cell wr #[.int .i64 s.lo, .int .i64 s.hi] 41 0 rfl)
                  have d1 := kept_cell (new_cell wr #[.int .i64 s.lo, .int .i64 s.hi] 41 1 rfl)
                  have pl := fun x : Cw (Kept (wr.alloc (.cells #[.int .i64 s.lo, .int .i64 s.hi] 41))) => (sp_cells (hwA.cw x) rar HP.out).2
                  go_wp2
                  refine region_kept (by kernel_rfl) (by kernel_rfl) ?_
                  repeat (go_big_quiet_step (fail))
                  refine wpQuiet_nil fun w5 hw5 => ?_
                  go_wp2
                  refine ⟨⟨k + 1, by omega, by go_num, by rw [hnext.out], ?_⟩, by simp [intOf]; omega⟩
                  exact (hBq.alloc hBq.size _).trans (hw5.mono (by have := hBq.size; simp; omega))
                · have hnext : Hid (bestTo la x (k + 1) = b) := (best_miss HS.out (by rw [hb, Int.toNat_natCast, HP.out]; rintro ⟨_, _, h | h⟩ <;> first | omega | exact hg h)).trans hb
                  rw [hb]
                  clear hb
                  have hb0 : decide ((b : Int) < 0) = false := by simp
                  have hdg : decide (p.hi < s.hi) = false := by simpa using hg
                  have d0 := kept_cell (new_cell wr #[.int .i64 s.lo, .int .i64 s.hi] 41 0 rfl)
                  have d1 := kept_cell (new_cell wr #[.int .i64 s.lo, .int .i64 s.hi] 41 1 rfl)
                  have pl := fun x : Cw (Kept (wr.alloc (.cells #[.int .i64 s.lo, .int .i64 s.hi] 41))) => (sp_cells (hwA.cw x) rar HP.out).2
                  go_wp2
                  refine region_kept (by kernel_rfl) (by kernel_rfl) ?_
                  repeat (go_big_quiet_step (fail))
                  refine wpQuiet_nil fun w5 hw5 => ?_
                  go_wp2
                  refine ⟨⟨k + 1, by omega, by go_num, by rw [hnext.out], ?_⟩, by simp [intOf]; omega⟩
                  exact (hBq.alloc hBq.size _).trans (hw5.mono (by have := hBq.size; simp; omega))
            · have hnext : Hid (bestTo la x (k + 1) = bestTo la x k) := best_miss HS.out (by rintro ⟨_, h, _⟩; omega)
              generalize bestTo la x k = bst at *
              have hdh : decide (x < s.hi) = false := by simpa using hhi
              have d0 := kept_cell (new_cell wr #[.int .i64 s.lo, .int .i64 s.hi] 41 0 rfl)
              have d1 := kept_cell (new_cell wr #[.int .i64 s.lo, .int .i64 s.hi] 41 1 rfl)
              go_wp2
              refine region_kept (by kernel_rfl) (by kernel_rfl) ?_
              repeat (go_big_quiet_step (fail))
              refine wpQuiet_nil fun w5 hw5 => ?_
              go_wp2
              refine ⟨⟨k + 1, by omega, by go_num, by rw [hnext.out], ?_⟩, by simp [intOf]; omega⟩
              exact (hBq.alloc hBq.size _).trans (hw5.mono (by have := hBq.size; simp; omega))
          · have hnext : Hid (bestTo la x (k + 1) = bestTo la x k) := best_miss HS.out (by rintro ⟨h, _⟩; omega)
            generalize bestTo la x k = bst at *
            have hdl : decide (s.lo ≤ x) = false := by simpa using hlo
            have d0 := kept_cell (new_cell wr #[.int .i64 s.lo, .int .i64 s.hi] 41 0 rfl)
            have d1 := kept_cell (new_cell wr #[.int .i64 s.lo, .int .i64 s.hi] 41 1 rfl)
            go_wp2
            refine region_kept (by kernel_rfl) (by kernel_rfl) ?_
            repeat (go_big_quiet_step (fail))
            refine wpQuiet_nil fun w5 hw5 => ?_
            go_wp2
            refine ⟨⟨k + 1, by omega, by go_num, by rw [hnext.out], ?_⟩, by simp [intOf]; omega⟩
            exact (hBq.alloc hBq.size _).trans (hw5.mono (by have := hBq.size; simp; omega))
        · obtain rfl : k = la.length := by omega
          rw [hbst.out]
          clear hbst
          have hwq := hwI.below hBq
          obtain ⟨ab, ao, rfl, ar⟩ := hra (by omega)
          obtain ⟨vo, vc, rfl⟩ := int_form hv
          obtain ⟨uo, uc, rfl⟩ := int_form hu
          go_wp2_with (first | (at_builtin; refine wpList_append_lit (S := S) rfl _ _ 42 rfl Tryz.underlying42 hi0 hz0 hz1 hz2 rfl (by decide) rfl rfl (by simp) hv hwq rfl rfl (by unfold maxLen; omega) (by omega) ?_; intro v' w7 Hs' hv7 hw7 _; obtain ⟨vo', vc', rfl⟩ := int_form hv7; have hw8 := cov_swap hw7; clear hv hwq hw7) | (at_builtin; refine wpList_append_lit (S := S) rfl _ _ 42 rfl Tryz.underlying42 hi0 hz0 hz1 hz2 rfl (by decide) rfl rfl (by simp) hu hw8 rfl rfl (by unfold maxLen; omega) (by omega) ?_; intro u' w9 Ht' hu9 hw9 _; obtain ⟨uo', uc', rfl⟩ := int_form hu9; have q1 := (sp_cells hw9 (ar.mono fun p hp => List.mem_append_right _ (List.mem_append_right _ (List.mem_cons_of_mem _ hp))) HSB.out).2; clear hu hw8))
          refine ⟨⟨n + 1, by omega, by rw [HNX.out], ?_⟩, by simp [intOf]; omega⟩
          rw [HNX.out]
          refine ⟨Hs', Ht', ?_, ?_, cov_swap hw9⟩
          · rw [inc_append, List.length_append]; exact hv7
          · rw [inc_append, List.length_append]; exact hu9
    · have hnN : n = N := by
        rcases Nat.lt_or_ge n N with h | h
        · have := (HT.out.step n h).1
          omega
        · omega
      obtain ⟨vo, vc, rfl⟩ := int_form hv
      obtain ⟨uo, uc, rfl⟩ := int_form hu
      subst hnN
      generalize (tr n).1 = x at *
      go_wp2
      go_ret3
      exact ⟨_, _, rfl, Hs, Ht, hv, hu, hwI.sub (List.Sublist.append_left (List.Sublist.append_left (List.sublist_cons_self _ _) _) _)⟩

/-- A new list of numbers and an error are handed back. -/
def MadeIE (S : World) (H : Hp) (out : List Int) (err : Int) (e : Ending) (w' : World) : Prop :=
  ∃ v Hs, e = .returned (.tuple #[v, .int .i64 err]) ∧ SlR 3 1 v out.length (inc out) Hs ∧ Has S w' (Hs ++ H)

theorem cover_calls (S w : World) (H : Hp) (hw : Has S w H) (va : Value) (la : List Sp) (ha : SlIn H 2 va la.length (spc la)) (lo hi : Int) (hok : Sp.ok ⟨lo, hi⟩ = true) (hle : listE la = 0) (tr : Nat → Int × List Int × List Int) (N : Nat) (ht : Trace la lo hi tr N) :
    Calls Tryz.prog 20 #[.agg #[.int .i64 lo, .int .i64 hi], va] w (MadeIE S H (tr N).2.1 0) := by
  have hw1 := hw.alloc (.cells #[.int .i64 lo, .int .i64 hi] 41)
  have h := Lib.hid (covered_calls S _ _ hw1 va la (ha.mono fun p hp => List.mem_cons_of_mem _ hp) lo hi hok hle tr N ht)
  clear ht hok hle
  obtain ⟨_, aa, ca, rfl, hca, hra⟩ := ha
  go_enter Tryz.func20, Tryz.ntmps20
  go_wp2_with fail
  refine h.out.mono ?_
  rintro e w2 ⟨v, u, rfl, Hs, Ht, hv, hu, hw2⟩
  obtain ⟨vo, vc, rfl⟩ := int_form hv
  obtain ⟨uo, uc, rfl⟩ := int_form hu
  go_wp2
  go_ret2
  exact ⟨_, Hs, rfl, hv, hw2.sub (List.Sublist.append_left ((List.sublist_cons_self _ _).trans (List.sublist_append_right _ _)) _)⟩

/-- The trace of the cover that every right program finds. -/
def trA : Nat → Int × List Int × List Int
  | 0 => (0, [], [])
  | 1 => (4, [0], [0])
  | 2 => (8, [0, 2], [0, 4])
  | _ => (10, [0, 2, 3], [0, 4, 8])

def lA : List Sp := [⟨0, 4⟩, ⟨0, 3⟩, ⟨3, 8⟩, ⟨6, 10⟩]

theorem trace_A : Trace lA 0 10 trA 3 := by
  refine ⟨rfl, by decide, fun n hn => ?_, by decide, fun n hn => ?_⟩
  · obtain rfl | rfl | rfl : n = 0 ∨ n = 1 ∨ n = 2 := by omega
    · exact ⟨by decide, 0, ⟨0, 4⟩, by decide, rfl, by decide, by decide, rfl⟩
    · exact ⟨by decide, 2, ⟨3, 8⟩, by decide, rfl, by decide, by decide, rfl⟩
    · exact ⟨by decide, 3, ⟨6, 10⟩, by decide, rfl, by decide, by decide, rfl⟩
  · obtain rfl | rfl | rfl | rfl : n = 0 ∨ n = 1 ∨ n = 2 ∨ n = 3 := by omega
    all_goals exact ⟨rfl, rfl⟩

def lO : List Sp := [⟨5, 9⟩, ⟨1, 3⟩, ⟨3, 5⟩]

theorem of_A : ofOut lO = [⟨1, 9⟩] ∧ listE lO = 0 := by decide
theorem size_A : rankV 1099511627776 [⟨1, 9⟩] = 8 ∧ setE [⟨1, 9⟩] = 0 := by decide

/-- A slice value that was just laid. -/
theorem laid_in {w : World} {H : Hp} {E : TypeId} {sz n : Nat} {c : Array Value} (hc : c.size = n * sz) (hm : n ≤ maxLen) : SlIn ((w.heap.size, .cells c E (0, 0)) :: H) sz (.slice (some ⟨w.heap.size, 0, none⟩) n n) n c.toList :=
  (SlR.made (E := E) hc hm).read (fun p hp => by rw [List.mem_singleton] at hp; rw [hp]; exact List.mem_cons_self)

set_option maxHeartbeats 1600000 in
set_option maxRecDepth 100000 in
theorem alive_calls (S w : World) (H : Hp) (hw : Has S w H) : Calls Tryz.prog 6 #[] w fun e w' => e = .returned (.bool true) ∧ Has S w' H := by
  go_enter Tryz.func6, Tryz.ntmps6
  go_wp2_with fail
  have hw1 := hw.alloc (.cells #[.int .i64 5, .int .i64 9, .int .i64 1, .int .i64 3, .int .i64 3, .int .i64 5] 41)
  have h1 := of_calls S _ _ hw1 _ lO (laid_in (n := 3) rfl (by unfold maxLen; omega))
  rw [of_A.1, of_A.2] at h1
  refine h1.mono ?_
  clear h1
  rintro e w2 ⟨v, Hs, rfl, hv, hw2⟩
  obtain ⟨vo, vc, rfl⟩ := sl_form hv
  go_wp2_with fail
  have hw3 := hw2.alloc (.cells #[.int .i64 0, .int .i64 4, .int .i64 0, .int .i64 3, .int .i64 3, .int .i64 8, .int .i64 6, .int .i64 10] 41)
  refine (cover_calls S _ _ hw3 _ lA (laid_in (n := 4) rfl (by unfold maxLen; omega)) 0 10 (by decide) (by decide) trA 3 trace_A).mono ?_
  rintro e w4 ⟨u, Hu, rfl, hu, hw4⟩
  change SlR 3 1 u 3 (inc [0, 2, 3]) Hu at hu
  obtain ⟨uo, uc, rfl⟩ := int_form hu
  go_wp2_with fail
  have hvin := hv.read (H := Hu ++ ((w2.heap.size, .cells #[.int .i64 0, .int .i64 4, .int .i64 0, .int .i64 3, .int .i64 3, .int .i64 8, .int .i64 6, .int .i64 10] 41 (0, 0)) :: (Hs ++ ((w.heap.size, .cells #[.int .i64 5, .int .i64 9, .int .i64 1, .int .i64 3, .int .i64 3, .int .i64 5] 41 (0, 0)) :: H)))) (fun p hp => List.mem_append_right _ (List.mem_cons_of_mem _ (List.mem_append_left _ hp)))
  have h3 := size_calls S w4 _ hw4 _ [⟨1, 9⟩] hvin
  rw [size_A.1, size_A.2] at h3
  refine h3.mono ?_
  clear h3
  rintro e w5 ⟨rfl, hB5⟩
  have hw5 := hw4.below hB5
  go_wp2_with fail
  have hw6 := hw5.alloc (.cells #[.int .i64 1, .int .i64 9] 41)
  have h4 := same_calls S _ _ hw6 _ _ [⟨1, 9⟩] [⟨1, 9⟩] (hvin.mono fun p hp => List.mem_cons_of_mem _ hp) (laid_in (n := 1) (c := #[.int .i64 1, .int .i64 9]) rfl (by unfold maxLen; omega)) (by decide)
  refine h4.mono ?_
  clear h4
  rintro e w7 ⟨rfl, hB7⟩
  have hw7 := hw6.below hB7
  rw [show decide (([⟨1, 9⟩] : List Sp) = [⟨1, 9⟩]) = true from by decide]
  go_wp2_with fail
  have hw8 := hw7.alloc (.cells #[.int .i64 0, .int .i64 2, .int .i64 3] 3)
  have h5 := alike_calls S _ _ hw8 _ _ [0, 2, 3] [0, 2, 3] (hu.read fun p hp => List.mem_cons_of_mem _ (List.mem_cons_of_mem _ (List.mem_append_left _ hp))) (laid_in (n := 3) (c := #[.int .i64 0, .int .i64 2, .int .i64 3]) rfl (by unfold maxLen; omega)) (by decide)
  refine h5.mono ?_
  clear h5
  rintro e w9 ⟨rfl, hB9⟩
  have hw9 := hw8.below hB9
  rw [show decide (([0, 2, 3] : List Int) = [0, 2, 3]) = true from by decide]
  go_wp2
  go_ret
  exact ⟨rfl, hw9.sub ((((((List.sublist_cons_self _ _).trans (List.sublist_append_right _ _)).trans (List.sublist_cons_self _ _)).trans (List.sublist_append_right _ _)).trans (List.sublist_cons_self _ _)).trans (List.sublist_cons_self _ _))⟩

end Go.Proofs.YtifeapnhemolgaaGreatDoor.Wk
