/- SpanAdjoint: its walk. -/
import Derived.Test.YtifeapnhemolgaaTc
import Derived.Test.YtifeapnhemolgaaPi
namespace Go.Proofs.Ytifeapnhemolgaa.Wk
open Go Go.RowKit Go.Proofs.Ytifeapnhemolgaa.HL Go.Proofs.Ytifeapnhemolgaa.Pl

theorem within_iff {a b : List Sp} (ha : isSet a = true) (hb : isSet b = true) (h : a.length + b.length + 1 ≤ 128) : withinB a b = true ↔ ∀ x, inB a x = true → inB b x = true := by
  have hl := chosen_count (keepB 2) ha hb
  obtain ⟨h1, h2⟩ := chosen_spec (keepB 2) ha hb
  have e1 : chosenErr (keepB 2) a b = 0 := by
    unfold chosenErr
    rw [ha, hb]
    simp only [Bool.and_self, if_true]
    rw [if_neg (by omega)]
  have e2 : chosenOut (keepB 2) a b = chosen (keepB 2) a b := by
    unfold chosenOut
    rw [ha, hb]
    simp only [Bool.and_self, if_true]
    rw [if_neg (by omega)]
  unfold withinB
  rw [e1, e2]
  generalize chosen (keepB 2) a b = out at *
  simp only [BEq.rfl, Bool.true_and, decide_eq_true_eq]
  constructor
  · intro hz x hx
    obtain rfl := List.eq_nil_of_length_eq_zero hz
    have h3 := h2 x
    rw [inB_nil, set_inW ha hx, hx] at h3
    cases hb' : inB b x with
    | true => rfl
    | false => rw [hb'] at h3; cases h3
  · intro hall
    cases out with
    | nil => rfl
    | cons s l =>
      have h3 := h1.has_lo
      rw [h2, Bool.and_eq_true] at h3
      obtain ⟨_, h4⟩ := h3
      have h5 : inB a s.lo = true ∧ inB b s.lo = false := by
        cases hp : inB a s.lo <;> cases hq : inB b s.lo <;> rw [hp, hq] at h4 <;> first | (cases h4; done) | exact ⟨rfl, rfl⟩
      rw [hall _ h5.1] at h5
      cases h5.2

theorem within_adjoint {a b : List Sp} (ha : isSet a = true) (hb : isSet b = true) (h : a.length + b.length + 1 ≤ 128) {r : Int} (hr : 0 ≤ r) : withinB (growL r a) b = withinB a (shrinkL r b) := by
  have h1 := within_iff (grow_set ha hr) hb (by have := grow_len a r; omega)
  have h2 := within_iff ha (shrink_set hb hr) (by have := shrink_len r b; omega)
  rw [Bool.eq_iff_iff, h1, h2]
  exact adjoint ha hb hr

set_option maxHeartbeats 12800000 in
set_option maxRecDepth 100000 in
theorem adjoint_walk (W : World) (va vb : Value) (la lb : List Sp) (ha : SlIn (Hall W) 2 va la.length (spc la)) (hb : SlIn (Hall W) 2 vb lb.length (spc lb)) (hla : la.length ≤ maxLen) (hlb : lb.length ≤ maxLen) (r q : Int) :
    Calls Try.prog 5 #[va, vb, .int .i64 r, .int .i64 q] W fun e w' => e = .returned (.bool true) ∧ Below W.heap.size W w' := by
  have hsa := setOf_set la
  have hsb := setOf_set lb
  have la6 := setOf_length la
  have lb6 := setOf_length lb
  have HSA := Lib.hid (sets_calls W W (Hall W) (Has.all W) va la ha hla)
  have HSB := Lib.hid fun w' H' (h : Has W w' (H' ++ Hall W)) => sets_calls W w' (H' ++ Hall W) h vb lb (hb.mono fun p hp => List.mem_append_right _ hp) hlb
  obtain ⟨_, aa, ca, rfl, _, _⟩ := ha
  obtain ⟨_, ab, cb, rfl, _, _⟩ := hb
  clear hla hlb
  go_enter Try.func5, Try.ntmps5
  go_wp2_with fail
  refine HSA.out.mono ?_
  rintro e w1 ⟨v1, H1, rfl, hv1, hw1⟩
  obtain ⟨ao, ac, rfl⟩ := sl_form hv1
  go_wp2_with fail
  refine (HSB.out w1 H1 hw1).mono ?_
  rintro e w2 ⟨v2, H2, rfl, hv2, hw2⟩
  obtain ⟨bo, bc, rfl⟩ := sl_form hv2
  clear HSA HSB
  generalize setOf la = a at *
  generalize setOf lb = b at *
  have HA := Lib.hid hsa
  have HB := Lib.hid hsb
  clear hsa hsb hw1
  have IA := hv1.read (H := H2 ++ (H1 ++ Hall W)) (fun p hp => List.mem_append_right _ (List.mem_append_left _ hp))
  have IB := hv2.read (H := H2 ++ (H1 ++ Hall W)) (fun p hp => List.mem_append_left _ hp)
  clear hv1 hv2
  have hGall : ∀ w', Has W w' (H2 ++ (H1 ++ Hall W)) → Below W.heap.size W w' := fun w' h => by
    rw [← List.append_assoc] at h
    exact h.below_of_all
  generalize H2 ++ (H1 ++ Hall W) = G at *
  go_wp2_with fail
  by_cases ht : 0 ≤ r ∧ r ≤ 1099511627776
  · obtain ⟨r0, r1⟩ := ht
    have ta : tol a r = true := by simp [tol, HA.out, r0, r1]
    have tb : tol b r = true := by simp [tol, HB.out, r0, r1]
    have hg := grow_calls W w2 G hw2 _ a IA r
    rw [show growOut a r = growL r a from if_pos ta, show tolErr a r = 0 from if_pos ta] at hg
    refine hg.mono ?_
    clear hg
    rintro e w3 ⟨g, Hg, rfl, hg, hw3⟩
    obtain ⟨gro, grc, rfl⟩ := sl_form hg
    go_wp2_with fail
    have hs := shrink_calls W w3 _ hw3 _ b (IB.mono fun p hp => List.mem_append_right _ hp) r
    rw [show shrinkOut b r = shrinkL r b from if_pos tb, show tolErr b r = 0 from if_pos tb] at hs
    refine hs.mono ?_
    clear hs ta tb
    rintro e w4 ⟨s, Hs, rfl, hs, hw4⟩
    obtain ⟨so, sc, rfl⟩ := sl_form hs
    have HAD := Lib.hid (within_adjoint HA.out HB.out (by omega) r0)
    have HG1 := Lib.hid (grow_set HA.out r0)
    have HS1 := Lib.hid (shrink_set HB.out r0)
    have HG2 := Lib.hid fun q (h : 0 ≤ q) => grow_twice HA.out r0 (q := q) h
    have HS2 := Lib.hid fun q (h : 0 ≤ q) => shrink_twice HB.out r0 (q := q) h
    have glen := grow_len a r
    have slen := shrink_len r b
    have JG := hg.read (H := Hs ++ (Hg ++ G)) (fun p hp => List.mem_append_right _ (List.mem_append_left _ hp))
    have JS := hs.read (H := Hs ++ (Hg ++ G)) (fun p hp => List.mem_append_left _ hp)
    have JA := IA.mono (H' := Hs ++ (Hg ++ G)) fun p hp => List.mem_append_right _ (List.mem_append_right _ hp)
    have JB := IB.mono (H' := Hs ++ (Hg ++ G)) fun p hp => List.mem_append_right _ (List.mem_append_right _ hp)
    have hKall : ∀ w', Has W w' (Hs ++ (Hg ++ G)) → Below W.heap.size W w' := fun w' h => hGall w' h.right.right
    generalize growL r a = gr at *
    generalize shrinkL r b = sk at *
    clear hg hs hw3 hw2 hGall IA IB
    generalize Hs ++ (Hg ++ G) = K at *
    go_wp2_with fail
    refine (within_calls W w4 K hw4 _ _ gr b JG JB).mono ?_
    rintro e w5 ⟨rfl, hw5⟩
    go_wp2_with fail
    refine (within_calls W w5 K hw5 _ _ a sk JA JS).mono ?_
    rintro e w6 ⟨rfl, hw6⟩
    rw [HAD.out]
    clear hw4 hw5
    generalize withinB a sk = wi at *
    cases wi
    all_goals
      go_wp2_with fail
      by_cases hq : 0 ≤ q ∧ q ≤ 1099511627776
      · obtain ⟨q0, q1⟩ := hq
        have tg : tol gr q = true := by simp [tol, HG1.out, q0, q1]
        have ts : tol sk q = true := by simp [tol, HS1.out, q0, q1]
        have hg := grow_calls W w6 K hw6 _ gr JG q
        rw [show growOut gr q = growL q gr from if_pos tg, show tolErr gr q = 0 from if_pos tg, HG2.out q q0] at hg
        refine hg.mono ?_
        clear hg
        rintro e w7 ⟨o, Ho, rfl, ho, hw7⟩
        obtain ⟨oo, oc, rfl⟩ := sl_form ho
        by_cases hrq : r + q ≤ 1099511627776
        · go_wp2_with fail
          have t2 : tol a (r + q) = true := by simp [tol, HA.out, hrq]; omega
          have t3 : tol b (r + q) = true := by simp [tol, HB.out, hrq]; omega
          have h2 := grow_calls W w7 _ hw7 _ a (JA.mono fun p hp => List.mem_append_right _ hp) (r + q)
          rw [show growOut a (r + q) = growL (r + q) a from if_pos t2, show tolErr a (r + q) = 0 from if_pos t2] at h2
          refine h2.mono ?_
          clear h2
          rintro e w8 ⟨t, Ht, rfl, ht, hw8⟩
          obtain ⟨to, tc, rfl⟩ := sl_form ht
          go_wp2_with fail
          have h3 := shrink_calls W w8 _ hw8 _ sk (JS.mono fun p hp => List.mem_append_right _ (List.mem_append_right _ hp)) q
          rw [show shrinkOut sk q = shrinkL q sk from if_pos ts, show tolErr sk q = 0 from if_pos ts, HS2.out q q0] at h3
          refine h3.mono ?_
          clear h3
          rintro e w9 ⟨l, Hl, rfl, hl, hw9⟩
          obtain ⟨lo, lc, rfl⟩ := sl_form hl
          go_wp2_with fail
          have h4 := shrink_calls W w9 _ hw9 _ b (JB.mono fun p hp => List.mem_append_right _ (List.mem_append_right _ (List.mem_append_right _ hp))) (r + q)
          rw [show shrinkOut b (r + q) = shrinkL (r + q) b from if_pos t3, show tolErr b (r + q) = 0 from if_pos t3] at h4
          refine h4.mono ?_
          clear h4 t2 t3 tg ts
          rintro e w10 ⟨f, Hf, rfl, hf, hw10⟩
          obtain ⟨fo, fc, rfl⟩ := sl_form hf
          have g2len := grow_len a (r + q)
          have s2len := shrink_len (r + q) b
          generalize growL (r + q) a = g2 at *
          generalize shrinkL (r + q) b = s2 at *
          go_wp2_with fail
          have h5 := same_calls W _ _ hw10 _ _ g2 g2 (ho.read fun p hp => List.mem_append_right _ (List.mem_append_right _ (List.mem_append_right _ (List.mem_append_left _ hp)))) (ht.read fun p hp => List.mem_append_right _ (List.mem_append_right _ (List.mem_append_left _ hp))) (by omega)
          rw [decide_eq_true (rfl : g2 = g2)] at h5
          refine h5.mono ?_
          clear h5
          rintro e w11 ⟨rfl, hB11⟩
          have hw11 := hw10.below hB11
          go_wp2_with fail
          have h6 := same_calls W _ _ hw11 _ _ s2 s2 (hl.read fun p hp => List.mem_append_right _ (List.mem_append_left _ hp)) (hf.read fun p hp => List.mem_append_left _ hp) (by omega)
          rw [decide_eq_true (rfl : s2 = s2)] at h6
          refine h6.mono ?_
          clear h6
          rintro e w12 ⟨rfl, hB12⟩
          have hw12 := hw11.below hB12
          go_wp2_with fail
          refine (alive_below _).mono ?_
          rintro e w13 ⟨rfl, hB13⟩
          go_wp2
          go_ret
          exact ⟨rfl, hKall _ ((hw12.below hB13).right.right.right.right)⟩
        · have hrq2 : 1099511627776 < r + q := by omega
          go_wp2_with (go_at_call 8; refine (alive_below _).mono ?_; rintro e w9 ⟨rfl, hB9⟩)
          go_ret
          exact ⟨rfl, hKall _ ((hw7.below hB9).right)⟩
      · have tg : tol gr q = false := by simp [tol, HG1.out]; omega
        have hg := grow_calls W w6 K hw6 _ gr JG q
        rw [show growOut gr q = [] by simp [growOut, tg], show tolErr gr q = 2 by simp [tolErr, tg]] at hg
        refine hg.mono ?_
        clear hg
        rintro e w7 ⟨o, Ho, rfl, ho, hw7⟩
        obtain ⟨oo, oc, rfl⟩ := sl_form ho
        go_wp2_with (go_at_call 8; refine (alive_below _).mono ?_; rintro e w9 ⟨rfl, hB9⟩)
        go_ret
        exact ⟨rfl, hKall _ ((hw7.below hB9).right)⟩
  · have ta : tol a r = false := by simp [tol, HA.out]; omega
    have tb : tol b r = false := by simp [tol, HB.out]; omega
    have hg := grow_calls W w2 G hw2 _ a IA r
    rw [show growOut a r = [] by simp [growOut, ta], show tolErr a r = 2 by simp [tolErr, ta]] at hg
    refine hg.mono ?_
    clear hg
    rintro e w3 ⟨g, Hg, rfl, hg, hw3⟩
    obtain ⟨gro, grc, rfl⟩ := sl_form hg
    go_wp2_with fail
    have hs := shrink_calls W w3 _ hw3 _ b (IB.mono fun p hp => List.mem_append_right _ hp) r
    rw [show shrinkOut b r = [] by simp [shrinkOut, tb], show tolErr b r = 2 by simp [tolErr, tb]] at hs
    refine hs.mono ?_
    clear hs ta tb
    rintro e w4 ⟨s, Hs, rfl, hs, hw4⟩
    obtain ⟨so, sc, rfl⟩ := sl_form hs
    by_cases r0 : r < 0
    · go_wp2_with (go_at_call 8; refine (alive_below _).mono ?_; rintro e w9 ⟨rfl, hB9⟩)
      go_ret
      exact ⟨rfl, hGall _ ((hw4.below hB9).right.right)⟩
    · have r2 : 0 ≤ r := by omega
      have r1 : 1099511627776 < r := by omega
      go_wp2_with (go_at_call 8; refine (alive_below _).mono ?_; rintro e w9 ⟨rfl, hB9⟩)
      go_ret
      exact ⟨rfl, hGall _ ((hw4.below hB9).right.right)⟩

end Go.Proofs.Ytifeapnhemolgaa.Wk
