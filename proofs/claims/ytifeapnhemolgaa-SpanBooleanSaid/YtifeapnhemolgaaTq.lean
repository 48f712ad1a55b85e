/- SpanBoolean: its walk. Printed by a small program. -/
import Derived.Test.YtifeapnhemolgaaTh
import Derived.Deep.DeepCutAuto
namespace Go.Proofs.Ytifeapnhemolgaa.Wk
open Go Go.RowKit Go.Proofs.Ytifeapnhemolgaa.HL Go.Proofs.Ytifeapnhemolgaa.Pl

set_option maxHeartbeats 12800000 in
set_option maxRecDepth 100000 in
theorem boolean_walk (W : World) (va vb vc : Value) (la lb lc : List Sp) (ha : SlIn (Hall W) 2 va la.length (spc la)) (hb : SlIn (Hall W) 2 vb lb.length (spc lb)) (hc : SlIn (Hall W) 2 vc lc.length (spc lc)) (hla : la.length ≤ maxLen) (hlb : lb.length ≤ maxLen) (hlc : lc.length ≤ maxLen) :
    Calls Try.prog 4 #[va, vb, vc] W fun e w' => e = .returned (.bool true) ∧ Below W.heap.size W w' := by
  have hsa := setOf_set la
  have hsb := setOf_set lb
  have hsc := setOf_set lc
  have la6 := setOf_length la
  have lb6 := setOf_length lb
  have lc6 := setOf_length lc
  have HSA := Lib.hid (sets_calls W W (Hall W) (Has.all W) va la ha hla)
  have HSB := Lib.hid fun w' H' (h : Has W w' (H' ++ Hall W)) => sets_calls W w' (H' ++ Hall W) h vb lb (hb.mono fun p hp => List.mem_append_right _ hp) hlb
  have HSC := Lib.hid fun w' H' (h : Has W w' (H' ++ Hall W)) => sets_calls W w' (H' ++ Hall W) h vc lc (hc.mono fun p hp => List.mem_append_right _ hp) hlc
  obtain ⟨_, aa, ca, rfl, _, _⟩ := ha
  obtain ⟨_, ab, cb, rfl, _, _⟩ := hb
  obtain ⟨_, ac, cc, rfl, _, _⟩ := hc
  clear hla hlb hlc
  go_enter Try.func4, Try.ntmps4
  go_wp2_with fail
  refine HSA.out.mono ?_
  rintro e w0 ⟨v0, H0, rfl, hv0, hw0⟩
  obtain ⟨oA, cA, rfl⟩ := sl_form hv0
  go_wp2_with fail
  refine (HSB.out w0 H0 hw0).mono ?_
  rintro e w1 ⟨v1, H1, rfl, hv1, hw1⟩
  obtain ⟨oB, cB, rfl⟩ := sl_form hv1
  go_wp2_with fail
  refine (HSC.out w1 (H1 ++ H0) (by rw [List.append_assoc]; exact hw1)).mono ?_
  rintro e w2 ⟨v2, H2, rfl, hv2, hw2⟩
  obtain ⟨oC, cC, rfl⟩ := sl_form hv2
  clear HSA HSB HSC hw0 hw1
  rw [List.append_assoc] at hw2
  have JA := hv0.read (H := H2 ++ (H1 ++ (H0 ++ Hall W))) (fun p hp => List.mem_append_right _ (List.mem_append_right _ (List.mem_append_left _ hp)))
  have JB := hv1.read (H := H2 ++ (H1 ++ (H0 ++ Hall W))) (fun p hp => List.mem_append_right _ (List.mem_append_left _ hp))
  have JC := hv2.read (H := H2 ++ (H1 ++ (H0 ++ Hall W))) (fun p hp => List.mem_append_left _ hp)
  have hG : ∀ w', Has W w' (H2 ++ (H1 ++ (H0 ++ Hall W))) → Below W.heap.size W w' := fun w' h => h.right.right.below_of_all
  clear hv0 hv1 hv2
  generalize setOf la = a at *
  generalize setOf lb = b at *
  generalize setOf lc = c at *
  generalize H2 ++ (H1 ++ (H0 ++ Hall W)) = G at *
  obtain ⟨ab, bc, ac, l, fl, d, m, fm, na, nb, n, D, I, n1, n2, n3, n4, n5, q⟩ := laws hsa hsb hsc la6 lb6 lc6
  clear hsa hsb hsc
  have Q := Lib.hid q
  clear q
  go_wp2_with fail
  refine (or_ok W _ G hw2 _ _ a b JA JB Q.out.1).mono ?_
  rintro e w3 ⟨v, Hn, rfl, hv, hw3⟩
  obtain ⟨oab, cab, rfl⟩ := sl_form hv
  replace JA := JA.mono (H' := Hn ++ G) fun p hp => List.mem_append_right _ hp
  replace JB := JB.mono (H' := Hn ++ G) fun p hp => List.mem_append_right _ hp
  replace JC := JC.mono (H' := Hn ++ G) fun p hp => List.mem_append_right _ hp
  replace hG : ∀ w', Has W w' (Hn ++ G) → Below W.heap.size W w' := fun w' h => hG w' h.right
  have Jab := hv.read (H := Hn ++ G) fun p hp => List.mem_append_left _ hp
  clear hv hw2
  generalize Hn ++ G = G at *
  go_wp2_with fail
  refine (or_ok W _ G hw3 _ _ b a JB JA Q.out.2.1).mono ?_
  rintro e w4 ⟨v, Hn, rfl, hv, hw4⟩
  obtain ⟨oba, cba, rfl⟩ := sl_form hv
  replace JA := JA.mono (H' := Hn ++ G) fun p hp => List.mem_append_right _ hp
  replace JB := JB.mono (H' := Hn ++ G) fun p hp => List.mem_append_right _ hp
  replace JC := JC.mono (H' := Hn ++ G) fun p hp => List.mem_append_right _ hp
  replace Jab := Jab.mono (H' := Hn ++ G) fun p hp => List.mem_append_right _ hp
  replace hG : ∀ w', Has W w' (Hn ++ G) → Below W.heap.size W w' := fun w' h => hG w' h.right
  have Jba := hv.read (H := Hn ++ G) fun p hp => List.mem_append_left _ hp
  clear hv hw3
  generalize Hn ++ G = G at *
  go_wp2_with fail
  refine (same_ok W _ G hw4 _ _ ab Jab Jba (by omega)).mono ?_
  rintro e w5 ⟨rfl, hB⟩
  have hw5 := hw4.below hB
  clear hB hw4
  clear Jba
  go_wp2_with fail
  refine (and_ok W _ G hw5 _ _ b c JB JC Q.out.2.2.1).mono ?_
  rintro e w6 ⟨v, Hn, rfl, hv, hw6⟩
  obtain ⟨obc, cbc, rfl⟩ := sl_form hv
  replace JA := JA.mono (H' := Hn ++ G) fun p hp => List.mem_append_right _ hp
  replace JB := JB.mono (H' := Hn ++ G) fun p hp => List.mem_append_right _ hp
  replace JC := JC.mono (H' := Hn ++ G) fun p hp => List.mem_append_right _ hp
  replace Jab := Jab.mono (H' := Hn ++ G) fun p hp => List.mem_append_right _ hp
  replace hG : ∀ w', Has W w' (Hn ++ G) → Below W.heap.size W w' := fun w' h => hG w' h.right
  have Jbc := hv.read (H := Hn ++ G) fun p hp => List.mem_append_left _ hp
  clear hv hw5
  generalize Hn ++ G = G at *
  go_wp2_with fail
  refine (and_ok W _ G hw6 _ _ c b JC JB Q.out.2.2.2.1).mono ?_
  rintro e w7 ⟨v, Hn, rfl, hv, hw7⟩
  obtain ⟨ocb, ccb, rfl⟩ := sl_form hv
  replace JA := JA.mono (H' := Hn ++ G) fun p hp => List.mem_append_right _ hp
  replace JB := JB.mono (H' := Hn ++ G) fun p hp => List.mem_append_right _ hp
  replace JC := JC.mono (H' := Hn ++ G) fun p hp => List.mem_append_right _ hp
  replace Jab := Jab.mono (H' := Hn ++ G) fun p hp => List.mem_append_right _ hp
  replace Jbc := Jbc.mono (H' := Hn ++ G) fun p hp => List.mem_append_right _ hp
  replace hG : ∀ w', Has W w' (Hn ++ G) → Below W.heap.size W w' := fun w' h => hG w' h.right
  have Jcb := hv.read (H := Hn ++ G) fun p hp => List.mem_append_left _ hp
  clear hv hw6
  generalize Hn ++ G = G at *
  go_wp2_with fail
  refine (same_ok W _ G hw7 _ _ bc Jbc Jcb (by omega)).mono ?_
  rintro e w8 ⟨rfl, hB⟩
  have hw8 := hw7.below hB
  clear hB hw7
  clear Jcb
  go_wp2_with fail
  refine (or_ok W _ G hw8 _ _ a c JA JC Q.out.2.2.2.2.1).mono ?_
  rintro e w9 ⟨v, Hn, rfl, hv, hw9⟩
  obtain ⟨oac, cac, rfl⟩ := sl_form hv
  replace JA := JA.mono (H' := Hn ++ G) fun p hp => List.mem_append_right _ hp
  replace JB := JB.mono (H' := Hn ++ G) fun p hp => List.mem_append_right _ hp
  replace JC := JC.mono (H' := Hn ++ G) fun p hp => List.mem_append_right _ hp
  replace Jab := Jab.mono (H' := Hn ++ G) fun p hp => List.mem_append_right _ hp
  replace Jbc := Jbc.mono (H' := Hn ++ G) fun p hp => List.mem_append_right _ hp
  replace hG : ∀ w', Has W w' (Hn ++ G) → Below W.heap.size W w' := fun w' h => hG w' h.right
  have Jac := hv.read (H := Hn ++ G) fun p hp => List.mem_append_left _ hp
  clear hv hw8
  generalize Hn ++ G = G at *
  go_wp2_with fail
  refine (or_ok W _ G hw9 _ _ a bc JA Jbc Q.out.2.2.2.2.2.1).mono ?_
  rintro e w10 ⟨v, Hn, rfl, hv, hw10⟩
  obtain ⟨ole, cle, rfl⟩ := sl_form hv
  replace JA := JA.mono (H' := Hn ++ G) fun p hp => List.mem_append_right _ hp
  replace JB := JB.mono (H' := Hn ++ G) fun p hp => List.mem_append_right _ hp
  replace JC := JC.mono (H' := Hn ++ G) fun p hp => List.mem_append_right _ hp
  replace Jab := Jab.mono (H' := Hn ++ G) fun p hp => List.mem_append_right _ hp
  replace Jbc := Jbc.mono (H' := Hn ++ G) fun p hp => List.mem_append_right _ hp
  replace Jac := Jac.mono (H' := Hn ++ G) fun p hp => List.mem_append_right _ hp
  replace hG : ∀ w', Has W w' (Hn ++ G) → Below W.heap.size W w' := fun w' h => hG w' h.right
  have Jle := hv.read (H := Hn ++ G) fun p hp => List.mem_append_left _ hp
  clear hv hw9
  generalize Hn ++ G = G at *
  go_wp2_with fail
  refine (and_ok W _ G hw10 _ _ ab ac Jab Jac Q.out.2.2.2.2.2.2.1).mono ?_
  rintro e w11 ⟨v, Hn, rfl, hv, hw11⟩
  obtain ⟨ori, cri, rfl⟩ := sl_form hv
  replace JA := JA.mono (H' := Hn ++ G) fun p hp => List.mem_append_right _ hp
  replace JB := JB.mono (H' := Hn ++ G) fun p hp => List.mem_append_right _ hp
  replace JC := JC.mono (H' := Hn ++ G) fun p hp => List.mem_append_right _ hp
  replace Jab := Jab.mono (H' := Hn ++ G) fun p hp => List.mem_append_right _ hp
  replace Jbc := Jbc.mono (H' := Hn ++ G) fun p hp => List.mem_append_right _ hp
  replace Jac := Jac.mono (H' := Hn ++ G) fun p hp => List.mem_append_right _ hp
  replace Jle := Jle.mono (H' := Hn ++ G) fun p hp => List.mem_append_right _ hp
  replace hG : ∀ w', Has W w' (Hn ++ G) → Below W.heap.size W w' := fun w' h => hG w' h.right
  have Jri := hv.read (H := Hn ++ G) fun p hp => List.mem_append_left _ hp
  clear hv hw10
  generalize Hn ++ G = G at *
  go_upto_region 13 with fail
  go_cut [126] (fun s wx => s = .bool false ∧ Has W wx G)
  case first =>
    have SM := same_ok W _ G hw11 _ _ l Jle Jri (by omega)
    have SM := Lib.hid SM
    clear Q
    cases fl with
    | false =>
      go_wp2_with fail
      go_meet
      exact ⟨rfl, hw11⟩
    | true =>
      go_wp2_with fail
      refine SM.out.mono ?_
      rintro e w12 ⟨rfl, hB⟩
      have hw12 := hw11.below hB
      go_wp2_with fail
      go_meet
      exact ⟨rfl, hw12⟩
  case rest =>
  obtain ⟨rfl, hw12⟩ := hcut
  clear hw11
  clear Jle Jri Jac Jbc
  go_wp2_with fail
  refine (or_ok W _ G hw12 _ _ ab c Jab JC Q.out.2.2.2.2.2.2.2.1).mono ?_
  rintro e w13 ⟨v, Hn, rfl, hv, hw13⟩
  obtain ⟨oon, con, rfl⟩ := sl_form hv
  replace JA := JA.mono (H' := Hn ++ G) fun p hp => List.mem_append_right _ hp
  replace JB := JB.mono (H' := Hn ++ G) fun p hp => List.mem_append_right _ hp
  replace JC := JC.mono (H' := Hn ++ G) fun p hp => List.mem_append_right _ hp
  replace Jab := Jab.mono (H' := Hn ++ G) fun p hp => List.mem_append_right _ hp
  replace hG : ∀ w', Has W w' (Hn ++ G) → Below W.heap.size W w' := fun w' h => hG w' h.right
  have Jon := hv.read (H := Hn ++ G) fun p hp => List.mem_append_left _ hp
  clear hv hw12
  generalize Hn ++ G = G at *
  go_wp2_with fail
  refine (or_ok W _ G hw13 _ _ b c JB JC Q.out.2.2.2.2.2.2.2.2.1).mono ?_
  rintro e w14 ⟨v, Hn, rfl, hv, hw14⟩
  obtain ⟨od, cd, rfl⟩ := sl_form hv
  replace JA := JA.mono (H' := Hn ++ G) fun p hp => List.mem_append_right _ hp
  replace JB := JB.mono (H' := Hn ++ G) fun p hp => List.mem_append_right _ hp
  replace JC := JC.mono (H' := Hn ++ G) fun p hp => List.mem_append_right _ hp
  replace Jab := Jab.mono (H' := Hn ++ G) fun p hp => List.mem_append_right _ hp
  replace Jon := Jon.mono (H' := Hn ++ G) fun p hp => List.mem_append_right _ hp
  replace hG : ∀ w', Has W w' (Hn ++ G) → Below W.heap.size W w' := fun w' h => hG w' h.right
  have Jd := hv.read (H := Hn ++ G) fun p hp => List.mem_append_left _ hp
  clear hv hw13
  generalize Hn ++ G = G at *
  go_wp2_with fail
  refine (or_ok W _ G hw14 _ _ a d JA Jd Q.out.2.2.2.2.2.2.2.2.2.1).mono ?_
  rintro e w15 ⟨v, Hn, rfl, hv, hw15⟩
  obtain ⟨otw, ctw, rfl⟩ := sl_form hv
  replace JA := JA.mono (H' := Hn ++ G) fun p hp => List.mem_append_right _ hp
  replace JB := JB.mono (H' := Hn ++ G) fun p hp => List.mem_append_right _ hp
  replace JC := JC.mono (H' := Hn ++ G) fun p hp => List.mem_append_right _ hp
  replace Jab := Jab.mono (H' := Hn ++ G) fun p hp => List.mem_append_right _ hp
  replace Jon := Jon.mono (H' := Hn ++ G) fun p hp => List.mem_append_right _ hp
  replace Jd := Jd.mono (H' := Hn ++ G) fun p hp => List.mem_append_right _ hp
  replace hG : ∀ w', Has W w' (Hn ++ G) → Below W.heap.size W w' := fun w' h => hG w' h.right
  have Jtw := hv.read (H := Hn ++ G) fun p hp => List.mem_append_left _ hp
  clear hv hw14
  generalize Hn ++ G = G at *
  go_upto_region 18 with fail
  go_cut [157] (fun s wx => s = .bool false ∧ Has W wx G)
  case first =>
    have SM := same_ok W _ G hw15 _ _ m Jon Jtw (by omega)
    have SM := Lib.hid SM
    clear Q
    cases fm with
    | false =>
      go_wp2_with fail
      go_meet
      exact ⟨rfl, hw15⟩
    | true =>
      go_wp2_with fail
      refine SM.out.mono ?_
      rintro e w16 ⟨rfl, hB⟩
      have hw16 := hw15.below hB
      go_wp2_with fail
      go_meet
      exact ⟨rfl, hw16⟩
  case rest =>
  obtain ⟨rfl, hw16⟩ := hcut
  clear hw15
  clear Jon Jtw Jd
  go_wp2_with fail
  refine (lnot_ok W _ G hw16 _ a JA Q.out.2.2.2.2.2.2.2.2.2.2.1).mono ?_
  rintro e w17 ⟨v, Hn, rfl, hv, hw17⟩
  obtain ⟨ona, cna, rfl⟩ := sl_form hv
  replace JA := JA.mono (H' := Hn ++ G) fun p hp => List.mem_append_right _ hp
  replace JB := JB.mono (H' := Hn ++ G) fun p hp => List.mem_append_right _ hp
  replace JC := JC.mono (H' := Hn ++ G) fun p hp => List.mem_append_right _ hp
  replace Jab := Jab.mono (H' := Hn ++ G) fun p hp => List.mem_append_right _ hp
  replace hG : ∀ w', Has W w' (Hn ++ G) → Below W.heap.size W w' := fun w' h => hG w' h.right
  have Jna := hv.read (H := Hn ++ G) fun p hp => List.mem_append_left _ hp
  clear hv hw16
  generalize Hn ++ G = G at *
  go_wp2_with fail
  refine (lnot_ok W _ G hw17 _ b JB Q.out.2.2.2.2.2.2.2.2.2.2.2.1).mono ?_
  rintro e w18 ⟨v, Hn, rfl, hv, hw18⟩
  obtain ⟨onb, cnb, rfl⟩ := sl_form hv
  replace JA := JA.mono (H' := Hn ++ G) fun p hp => List.mem_append_right _ hp
  replace JB := JB.mono (H' := Hn ++ G) fun p hp => List.mem_append_right _ hp
  replace JC := JC.mono (H' := Hn ++ G) fun p hp => List.mem_append_right _ hp
  replace Jab := Jab.mono (H' := Hn ++ G) fun p hp => List.mem_append_right _ hp
  replace Jna := Jna.mono (H' := Hn ++ G) fun p hp => List.mem_append_right _ hp
  replace hG : ∀ w', Has W w' (Hn ++ G) → Below W.heap.size W w' := fun w' h => hG w' h.right
  have Jnb := hv.read (H := Hn ++ G) fun p hp => List.mem_append_left _ hp
  clear hv hw17
  generalize Hn ++ G = G at *
  go_wp2_with fail
  refine (lnot_ok W _ G hw18 _ na Jna Q.out.2.2.2.2.2.2.2.2.2.2.2.2.1).mono ?_
  rintro e w19 ⟨v, Hn, rfl, hv, hw19⟩
  obtain ⟨onna, cnna, rfl⟩ := sl_form hv
  replace JA := JA.mono (H' := Hn ++ G) fun p hp => List.mem_append_right _ hp
  replace JB := JB.mono (H' := Hn ++ G) fun p hp => List.mem_append_right _ hp
  replace JC := JC.mono (H' := Hn ++ G) fun p hp => List.mem_append_right _ hp
  replace Jab := Jab.mono (H' := Hn ++ G) fun p hp => List.mem_append_right _ hp
  replace Jna := Jna.mono (H' := Hn ++ G) fun p hp => List.mem_append_right _ hp
  replace Jnb := Jnb.mono (H' := Hn ++ G) fun p hp => List.mem_append_right _ hp
  replace hG : ∀ w', Has W w' (Hn ++ G) → Below W.heap.size W w' := fun w' h => hG w' h.right
  have Jnna := hv.read (H := Hn ++ G) fun p hp => List.mem_append_left _ hp
  clear hv hw18
  generalize Hn ++ G = G at *
  go_wp2_with fail
  refine (lnot_ok W _ G hw19 _ ab Jab Q.out.2.2.2.2.2.2.2.2.2.2.2.2.2.1).mono ?_
  rintro e w20 ⟨v, Hn, rfl, hv, hw20⟩
  obtain ⟨onab, cnab, rfl⟩ := sl_form hv
  replace JA := JA.mono (H' := Hn ++ G) fun p hp => List.mem_append_right _ hp
  replace JB := JB.mono (H' := Hn ++ G) fun p hp => List.mem_append_right _ hp
  replace JC := JC.mono (H' := Hn ++ G) fun p hp => List.mem_append_right _ hp
  replace Jab := Jab.mono (H' := Hn ++ G) fun p hp => List.mem_append_right _ hp
  replace Jna := Jna.mono (H' := Hn ++ G) fun p hp => List.mem_append_right _ hp
  replace Jnb := Jnb.mono (H' := Hn ++ G) fun p hp => List.mem_append_right _ hp
  replace Jnna := Jnna.mono (H' := Hn ++ G) fun p hp => List.mem_append_right _ hp
  replace hG : ∀ w', Has W w' (Hn ++ G) → Below W.heap.size W w' := fun w' h => hG w' h.right
  have Jnab := hv.read (H := Hn ++ G) fun p hp => List.mem_append_left _ hp
  clear hv hw19
  generalize Hn ++ G = G at *
  go_wp2_with fail
  refine (and_ok W _ G hw20 _ _ na nb Jna Jnb Q.out.2.2.2.2.2.2.2.2.2.2.2.2.2.2.1).mono ?_
  rintro e w21 ⟨v, Hn, rfl, hv, hw21⟩
  obtain ⟨onn, cnn, rfl⟩ := sl_form hv
  replace JA := JA.mono (H' := Hn ++ G) fun p hp => List.mem_append_right _ hp
  replace JB := JB.mono (H' := Hn ++ G) fun p hp => List.mem_append_right _ hp
  replace JC := JC.mono (H' := Hn ++ G) fun p hp => List.mem_append_right _ hp
  replace Jab := Jab.mono (H' := Hn ++ G) fun p hp => List.mem_append_right _ hp
  replace Jna := Jna.mono (H' := Hn ++ G) fun p hp => List.mem_append_right _ hp
  replace Jnb := Jnb.mono (H' := Hn ++ G) fun p hp => List.mem_append_right _ hp
  replace Jnna := Jnna.mono (H' := Hn ++ G) fun p hp => List.mem_append_right _ hp
  replace Jnab := Jnab.mono (H' := Hn ++ G) fun p hp => List.mem_append_right _ hp
  replace hG : ∀ w', Has W w' (Hn ++ G) → Below W.heap.size W w' := fun w' h => hG w' h.right
  have Jnn := hv.read (H := Hn ++ G) fun p hp => List.mem_append_left _ hp
  clear hv hw20
  generalize Hn ++ G = G at *
  go_wp2_with fail
  refine (and_ok W _ G hw21 _ _ a na JA Jna Q.out.2.2.2.2.2.2.2.2.2.2.2.2.2.2.2.1).mono ?_
  rintro e w22 ⟨v, Hn, rfl, hv, hw22⟩
  obtain ⟨ono, cno, rfl⟩ := sl_form hv
  replace JA := JA.mono (H' := Hn ++ G) fun p hp => List.mem_append_right _ hp
  replace JB := JB.mono (H' := Hn ++ G) fun p hp => List.mem_append_right _ hp
  replace JC := JC.mono (H' := Hn ++ G) fun p hp => List.mem_append_right _ hp
  replace Jab := Jab.mono (H' := Hn ++ G) fun p hp => List.mem_append_right _ hp
  replace Jna := Jna.mono (H' := Hn ++ G) fun p hp => List.mem_append_right _ hp
  replace Jnb := Jnb.mono (H' := Hn ++ G) fun p hp => List.mem_append_right _ hp
  replace Jnna := Jnna.mono (H' := Hn ++ G) fun p hp => List.mem_append_right _ hp
  replace Jnab := Jnab.mono (H' := Hn ++ G) fun p hp => List.mem_append_right _ hp
  replace Jnn := Jnn.mono (H' := Hn ++ G) fun p hp => List.mem_append_right _ hp
  replace hG : ∀ w', Has W w' (Hn ++ G) → Below W.heap.size W w' := fun w' h => hG w' h.right
  have Jno := hv.read (H := Hn ++ G) fun p hp => List.mem_append_left _ hp
  clear hv hw21
  generalize Hn ++ G = G at *
  go_wp2_with fail
  refine (or_ok W _ G hw22 _ _ a na JA Jna Q.out.2.2.2.2.2.2.2.2.2.2.2.2.2.2.2.2.1).mono ?_
  rintro e w23 ⟨v, Hn, rfl, hv, hw23⟩
  obtain ⟨oal, cal, rfl⟩ := sl_form hv
  replace JA := JA.mono (H' := Hn ++ G) fun p hp => List.mem_append_right _ hp
  replace JB := JB.mono (H' := Hn ++ G) fun p hp => List.mem_append_right _ hp
  replace JC := JC.mono (H' := Hn ++ G) fun p hp => List.mem_append_right _ hp
  replace Jab := Jab.mono (H' := Hn ++ G) fun p hp => List.mem_append_right _ hp
  replace Jna := Jna.mono (H' := Hn ++ G) fun p hp => List.mem_append_right _ hp
  replace Jnb := Jnb.mono (H' := Hn ++ G) fun p hp => List.mem_append_right _ hp
  replace Jnna := Jnna.mono (H' := Hn ++ G) fun p hp => List.mem_append_right _ hp
  replace Jnab := Jnab.mono (H' := Hn ++ G) fun p hp => List.mem_append_right _ hp
  replace Jnn := Jnn.mono (H' := Hn ++ G) fun p hp => List.mem_append_right _ hp
  replace Jno := Jno.mono (H' := Hn ++ G) fun p hp => List.mem_append_right _ hp
  replace hG : ∀ w', Has W w' (Hn ++ G) → Below W.heap.size W w' := fun w' h => hG w' h.right
  have Jal := hv.read (H := Hn ++ G) fun p hp => List.mem_append_left _ hp
  clear hv hw22
  generalize Hn ++ G = G at *
  go_wp2_with fail
  refine (same_ok W _ G hw23 _ _ a Jnna JA (by omega)).mono ?_
  rintro e w24 ⟨rfl, hB⟩
  have hw24 := hw23.below hB
  clear hB hw23
  go_wp2_with fail
  refine (same_ok W _ G hw24 _ _ n Jnab Jnn (by omega)).mono ?_
  rintro e w25 ⟨rfl, hB⟩
  have hw25 := hw24.below hB
  clear hB hw24
  go_wp2_with fail
  have hWA := hw25.alloc (Obj.cells #[Value.int .i64 (-1099511627776), Value.int .i64 1099511627776] 37)
  have JW : SlIn ((w25.heap.size, Obj.cells #[Value.int .i64 (-1099511627776), Value.int .i64 1099511627776] 37) :: G) 2 (.slice (some ⟨w25.heap.size, 0, none⟩) 1 1) 1 (spc [⟨-1099511627776, 1099511627776⟩]) := ⟨rfl, _, 1, rfl, Nat.le_refl _, fun _ => ⟨_, 0, rfl, _, _, _, List.mem_cons_self, fun j u hj => by rw [Nat.zero_add, ← Array.getElem?_toList]; exact hj⟩⟩
  refine (same_ok W _ _ hWA _ _ [⟨-1099511627776, 1099511627776⟩] (Jal.mono fun p hp => List.mem_cons_of_mem _ hp) JW (by decide)).mono ?_
  rintro e w26 ⟨rfl, hB⟩
  have hw26 := (hWA.below hB).tail
  clear hB hWA JW hw25
  clear Jna Jnb Jnna Jnab Jnn Jno Jal Jab
  go_wp2_with fail
  refine (or_ok W _ G hw26 _ _ a a JA JA Q.out.2.2.2.2.2.2.2.2.2.2.2.2.2.2.2.2.2.1).mono ?_
  rintro e w27 ⟨v, Hn, rfl, hv, hw27⟩
  obtain ⟨ose, cse, rfl⟩ := sl_form hv
  replace JA := JA.mono (H' := Hn ++ G) fun p hp => List.mem_append_right _ hp
  replace JB := JB.mono (H' := Hn ++ G) fun p hp => List.mem_append_right _ hp
  replace JC := JC.mono (H' := Hn ++ G) fun p hp => List.mem_append_right _ hp
  replace hG : ∀ w', Has W w' (Hn ++ G) → Below W.heap.size W w' := fun w' h => hG w' h.right
  have Jse := hv.read (H := Hn ++ G) fun p hp => List.mem_append_left _ hp
  clear hv hw26
  generalize Hn ++ G = G at *
  go_wp2_with fail
  refine (sub_ok W _ G hw27 _ _ a b JA JB Q.out.2.2.2.2.2.2.2.2.2.2.2.2.2.2.2.2.2.2.1).mono ?_
  rintro e w28 ⟨v, Hn, rfl, hv, hw28⟩
  obtain ⟨oD, cD, rfl⟩ := sl_form hv
  replace JA := JA.mono (H' := Hn ++ G) fun p hp => List.mem_append_right _ hp
  replace JB := JB.mono (H' := Hn ++ G) fun p hp => List.mem_append_right _ hp
  replace JC := JC.mono (H' := Hn ++ G) fun p hp => List.mem_append_right _ hp
  replace Jse := Jse.mono (H' := Hn ++ G) fun p hp => List.mem_append_right _ hp
  replace hG : ∀ w', Has W w' (Hn ++ G) → Below W.heap.size W w' := fun w' h => hG w' h.right
  have JD := hv.read (H := Hn ++ G) fun p hp => List.mem_append_left _ hp
  clear hv hw27
  generalize Hn ++ G = G at *
  go_wp2_with fail
  refine (and_ok W _ G hw28 _ _ a b JA JB Q.out.2.2.2.2.2.2.2.2.2.2.2.2.2.2.2.2.2.2.2.1).mono ?_
  rintro e w29 ⟨v, Hn, rfl, hv, hw29⟩
  obtain ⟨oI, cI, rfl⟩ := sl_form hv
  replace JA := JA.mono (H' := Hn ++ G) fun p hp => List.mem_append_right _ hp
  replace JB := JB.mono (H' := Hn ++ G) fun p hp => List.mem_append_right _ hp
  replace JC := JC.mono (H' := Hn ++ G) fun p hp => List.mem_append_right _ hp
  replace Jse := Jse.mono (H' := Hn ++ G) fun p hp => List.mem_append_right _ hp
  replace JD := JD.mono (H' := Hn ++ G) fun p hp => List.mem_append_right _ hp
  replace hG : ∀ w', Has W w' (Hn ++ G) → Below W.heap.size W w' := fun w' h => hG w' h.right
  have JI := hv.read (H := Hn ++ G) fun p hp => List.mem_append_left _ hp
  clear hv hw28
  generalize Hn ++ G = G at *
  go_wp2_with fail
  refine (or_ok W _ G hw29 _ _ D I JD JI Q.out.2.2.2.2.2.2.2.2.2.2.2.2.2.2.2.2.2.2.2.2).mono ?_
  rintro e w30 ⟨v, Hn, rfl, hv, hw30⟩
  obtain ⟨owh, cwh, rfl⟩ := sl_form hv
  replace JA := JA.mono (H' := Hn ++ G) fun p hp => List.mem_append_right _ hp
  replace JB := JB.mono (H' := Hn ++ G) fun p hp => List.mem_append_right _ hp
  replace JC := JC.mono (H' := Hn ++ G) fun p hp => List.mem_append_right _ hp
  replace Jse := Jse.mono (H' := Hn ++ G) fun p hp => List.mem_append_right _ hp
  replace JD := JD.mono (H' := Hn ++ G) fun p hp => List.mem_append_right _ hp
  replace JI := JI.mono (H' := Hn ++ G) fun p hp => List.mem_append_right _ hp
  replace hG : ∀ w', Has W w' (Hn ++ G) → Below W.heap.size W w' := fun w' h => hG w' h.right
  have Jwh := hv.read (H := Hn ++ G) fun p hp => List.mem_append_left _ hp
  clear hv hw29
  generalize Hn ++ G = G at *
  go_wp2_with fail
  refine (same_ok W _ G hw30 _ _ a Jse JA (by omega)).mono ?_
  rintro e w31 ⟨rfl, hB⟩
  have hw31 := hw30.below hB
  clear hB hw30
  go_wp2_with fail
  refine (same_ok W _ G hw31 _ _ a Jwh JA (by omega)).mono ?_
  rintro e w32 ⟨rfl, hB⟩
  have hw32 := hw31.below hB
  clear hB hw31
  go_wp2_with fail
  refine (alive_below _).mono ?_
  rintro e wz ⟨rfl, hB⟩
  go_wp2
  go_ret
  exact ⟨rfl, hG _ (hw32.below hB)⟩

end Go.Proofs.Ytifeapnhemolgaa.Wk
