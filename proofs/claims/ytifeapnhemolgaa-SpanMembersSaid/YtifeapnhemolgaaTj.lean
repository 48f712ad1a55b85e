/- SpanMembers: its walk, a part of it. Printed by a small program. -/
import Derived.Test.YtifeapnhemolgaaTd
import Derived.Deep.DeepCutAuto
namespace Go.Proofs.Ytifeapnhemolgaa.Wk
open Go Go.RowKit Go.Proofs.Ytifeapnhemolgaa.HL Go.Proofs.Ytifeapnhemolgaa.Pl

set_option maxHeartbeats 12800000 in
set_option maxRecDepth 100000 in
theorem members_ff (W : World) (va vb : Value) (la lb : List Sp) (ha : SlIn (Hall W) 2 va la.length (spc la)) (hb : SlIn (Hall W) 2 vb lb.length (spc lb)) (hla : la.length ≤ maxLen) (hlb : lb.length ≤ maxLen) (x y r : Int) (hx1 : -1099511627776 ≤ x) (hx2 : x < 1099511627776) (hp : inB (setOf la) x = false) (hq : inB (setOf lb) x = false) :
    Calls Try.prog 6 #[va, vb, .int .i64 x, .int .i64 y, .int .i64 r] W fun e w' => e = .returned (.bool true) ∧ Below W.heap.size W w' := by
  have hall := Has.all W
  have hsa := setOf_set la
  have hsb := setOf_set lb
  have hla6 := setOf_length la
  have hlb6 := setOf_length lb
  have HSA := Lib.hid (sets_calls W W (Hall W) hall va la ha hla)
  have HSB := Lib.hid fun w' H' (h : Has W w' (H' ++ Hall W)) => sets_calls W w' (H' ++ Hall W) h vb lb (hb.mono fun p hp => List.mem_append_right _ hp) hlb
  obtain ⟨_, aa, ca, rfl, _, _⟩ := ha
  obtain ⟨_, ab, cb, rfl, _, _⟩ := hb
  clear hla hlb
  go_enter Try.func6, Try.ntmps6
  go_wp2_with fail
  refine HSA.out.mono ?_
  rintro e w1 ⟨v1, H1, rfl, hv1, hw1⟩
  obtain ⟨ao, ac, rfl⟩ := sl_form hv1
  go_wp2_with fail
  refine (HSB.out w1 H1 hw1).mono ?_
  rintro e w2 ⟨v2, H2, rfl, hv2, hw2⟩
  obtain ⟨bo, bc, rfl⟩ := sl_form hv2
  clear HSA HSB
  generalize setOf la = a at *
  generalize setOf lb = b at *
  have HA := Lib.hid hsa
  have HB := Lib.hid hsb
  clear hsa hsb hw1
  have ia := hv1.read (H := H2 ++ (H1 ++ Hall W)) (fun p hp => List.mem_append_right _ (List.mem_append_left _ hp))
  have ib := hv2.read (H := H2 ++ (H1 ++ Hall W)) (fun p hp => List.mem_append_left _ hp)
  have IA := Lib.hid ia
  have IB := Lib.hid ib
  have la6 : a.length ≤ 60 := hla6
  have lb6 : b.length ≤ 60 := hlb6
  clear ia ib hv1 hv2
  obtain ⟨u1, u2, u3⟩ := chose_small (f := keepB 0) HA.out HB.out (by omega)
  obtain ⟨i1, i2, i3⟩ := chose_small (f := keepB 1) HA.out HB.out (by omega)
  obtain ⟨s1, s2, s3⟩ := chose_small (f := keepB 2) HA.out HB.out (by omega)
  obtain ⟨n1, n2, n3⟩ := chose_small (f := notB) (b := []) HA.out rfl (by simp; omega)
  have ux := chose_in (f := keepB 0) HA.out HB.out (by omega) x
  have ix := chose_in (f := keepB 1) HA.out HB.out (by omega) x
  have sx := chose_in (f := keepB 2) HA.out HB.out (by omega) x
  have nx := chose_in (f := notB) (b := []) HA.out rfl (by simp; omega) x
  have hU := union_calls W w2 _ hw2 _ _ a b IA.out IB.out
  have hI := fun w' Hu (h : Has W w' (Hu ++ (H2 ++ (H1 ++ Hall W)))) => intersect_calls W w' _ h _ _ a b (IA.out.mono fun p hp => List.mem_append_right _ hp) (IB.out.mono fun p hp => List.mem_append_right _ hp)
  have hS := fun w' Hu (h : Has W w' (Hu ++ (H2 ++ (H1 ++ Hall W)))) => subtract_calls W w' _ h _ _ a b (IA.out.mono fun p hp => List.mem_append_right _ hp) (IB.out.mono fun p hp => List.mem_append_right _ hp)
  have hN := fun w' Hu (h : Has W w' (Hu ++ (H2 ++ (H1 ++ Hall W)))) => not_calls W w' _ h _ a (IA.out.mono fun p hp => List.mem_append_right _ hp)
  rw [u1, u2] at hU
  rw [i1, i2] at hI
  rw [s1, s2] at hS
  rw [n1, n2] at hN
  have LU := Lib.hid hU
  have LI := Lib.hid hI
  have LS := Lib.hid hS
  have LN := Lib.hid hN
  have LUX := Lib.hid ux
  have LIX := Lib.hid ix
  have LSX := Lib.hid sx
  have LNX := Lib.hid nx
  clear u1 u2 u3 i1 i2 i3 s1 s2 s3 n1 n2 n3 hU hI hS hN ux ix sx nx
  generalize chosen (keepB 0) a b = U at *
  generalize chosen (keepB 1) a b = I at *
  generalize chosen (keepB 2) a b = D at *
  generalize chosen notB a [] = N at *
  go_wp2_with fail
  refine LU.out.mono ?_
  rintro e w3 ⟨u, Hu, rfl, hu, hw3⟩
  obtain ⟨uo, uc, rfl⟩ := sl_form hu
  go_wp2_with fail
  refine (LI.out w3 Hu hw3).mono ?_
  rintro e w4 ⟨i, Hi, rfl, hi, hw4⟩
  obtain ⟨io, ic, rfl⟩ := sl_form hi
  go_wp2_with fail
  refine (LS.out w4 (Hi ++ Hu) (by rw [List.append_assoc]; exact hw4)).mono ?_
  rintro e w5 ⟨s, Hs, rfl, hs, hw5⟩
  obtain ⟨so, sc, rfl⟩ := sl_form hs
  go_wp2_with fail
  refine (LN.out w5 (Hs ++ (Hi ++ Hu)) (by rw [List.append_assoc]; exact hw5)).mono ?_
  rintro e w6 ⟨n, Hn, rfl, hn, hw6⟩
  obtain ⟨no, nc, rfl⟩ := sl_form hn
  clear hw2 hw3 hw4 hw5 LU LI LS LN
  have hw6' : Has W w6 (Hn ++ (Hs ++ (Hi ++ (Hu ++ (H2 ++ (H1 ++ Hall W)))))) := by simpa only [List.append_assoc] using hw6
  clear hw6
  have mN : ∀ p, p ∈ Hn → p ∈ Hn ++ (Hs ++ (Hi ++ (Hu ++ (H2 ++ (H1 ++ Hall W))))) := fun p hp => List.mem_append_left _ hp
  have mD : ∀ p, p ∈ Hs → p ∈ Hn ++ (Hs ++ (Hi ++ (Hu ++ (H2 ++ (H1 ++ Hall W))))) := fun p hp => List.mem_append_right _ (List.mem_append_left _ hp)
  have mI : ∀ p, p ∈ Hi → p ∈ Hn ++ (Hs ++ (Hi ++ (Hu ++ (H2 ++ (H1 ++ Hall W))))) := fun p hp => List.mem_append_right _ (List.mem_append_right _ (List.mem_append_left _ hp))
  have mU : ∀ p, p ∈ Hu → p ∈ Hn ++ (Hs ++ (Hi ++ (Hu ++ (H2 ++ (H1 ++ Hall W))))) := fun p hp => List.mem_append_right _ (List.mem_append_right _ (List.mem_append_right _ (List.mem_append_left _ hp)))
  have mG : ∀ p, p ∈ H2 ++ (H1 ++ Hall W) → p ∈ Hn ++ (Hs ++ (Hi ++ (Hu ++ (H2 ++ (H1 ++ Hall W))))) := fun p hp => List.mem_append_right _ (List.mem_append_right _ (List.mem_append_right _ (List.mem_append_right _ hp)))
  have JA := IA.out.mono mG
  have JB := IB.out.mono mG
  have JU := hu.read mU
  have JI := hi.read mI
  have JD := hs.read mD
  have JN := hn.read mN
  clear mN mD mI mU IA IB hu hi hs hn
  have hGall : ∀ w', Has W w' (Hn ++ (Hs ++ (Hi ++ (Hu ++ (H2 ++ (H1 ++ Hall W)))))) → Below W.heap.size W w' := fun w' h => by
    have h' : Has W w' ((Hn ++ (Hs ++ (Hi ++ (Hu ++ (H2 ++ H1))))) ++ Hall W) := by simpa only [List.append_assoc] using h
    exact h'.below_of_all
  generalize Hn ++ (Hs ++ (Hi ++ (Hu ++ (H2 ++ (H1 ++ Hall W))))) = G at *
  have CU := fun w' (h : Has W w' G) => lhas_calls W w' G h _ U JU x
  have CI := fun w' (h : Has W w' G) => lhas_calls W w' G h _ I JI x
  have CD := fun w' (h : Has W w' G) => lhas_calls W w' G h _ D JD x
  have CN := fun w' (h : Has W w' G) => lhas_calls W w' G h _ N JN x
  have CA := fun w' (h : Has W w' G) => lhas_calls W w' G h _ a JA x
  have CB := fun w' (h : Has W w' G) => lhas_calls W w' G h _ b JB x
  rw [LUX.out] at CU
  rw [LIX.out] at CI
  rw [LSX.out] at CD
  rw [LNX.out] at CN
  rw [HA.out, Bool.true_and] at CA
  rw [HB.out, Bool.true_and] at CB
  have hin : inW x = false → inB a x = false ∧ inB b x = false := fun hw => by
    constructor
    · cases h : inB a x with
      | false => rfl
      | true => rw [set_inW HA.out h] at hw; cases hw
    · cases h : inB b x with
      | false => rfl
      | true => rw [set_inW HB.out h] at hw; cases hw
  have hiB : inB [] x = false := rfl
  rw [hiB] at CN
  have c1 := hx1
  have c2 := hx2
  have hw : inW x = true := by simp [inW, c1, c2]
  rw [hw] at CU CI CD CN
  have LHX := Lib.hid hw
  rw [hp, hq] at CU CI CD
  rw [hp] at CN CA
  rw [hq] at CB
  have LCA1 := Lib.hid CA
  have HP := Lib.hid hp
  clear hp hq
  have L0 := Lib.hid (And.intro CU (And.intro CI (And.intro CD (And.intro CN CB))))
  clear hin hw hiB CU CI CD CN CA CB
  go_upto_region 7 with fail
  go_cut [126] (fun s wx => s = .bool false ∧ Has W wx G)
  case first =>
    obtain ⟨CU, CI, CD, CN, CB⟩ := L0.out
    have CA := LCA1.out
    clear L0 LCA1 HP
    have LCU : Hid (∀ w', Has W w' G → Calls Try.prog 26 #[.slice uo U.length uc, .int .i64 x] w' fun e w'' => e = .returned (.bool false) ∧ Below w'.heap.size w' w'') := CU
    have LCI : Hid (∀ w', Has W w' G → Calls Try.prog 26 #[.slice io I.length ic, .int .i64 x] w' fun e w'' => e = .returned (.bool false) ∧ Below w'.heap.size w' w'') := CI
    have LCD : Hid (∀ w', Has W w' G → Calls Try.prog 26 #[.slice so D.length sc, .int .i64 x] w' fun e w'' => e = .returned (.bool false) ∧ Below w'.heap.size w' w'') := CD
    have LCN : Hid (∀ w', Has W w' G → Calls Try.prog 26 #[.slice no N.length nc, .int .i64 x] w' fun e w'' => e = .returned (.bool true) ∧ Below w'.heap.size w' w'') := CN
    have LCA : Hid (∀ w', Has W w' G → Calls Try.prog 26 #[.slice ao a.length ac, .int .i64 x] w' fun e w'' => e = .returned (.bool false) ∧ Below w'.heap.size w' w'') := CA
    have LCB : Hid (∀ w', Has W w' G → Calls Try.prog 26 #[.slice bo b.length bc, .int .i64 x] w' fun e w'' => e = .returned (.bool false) ∧ Below w'.heap.size w' w'') := CB
    clear CU CI CD CN CA CB
    go_wp2_with (go_at_call 26; (first | ((with_reducible refine (LCU.out _ hw6').mono ?_); rintro e w9 ⟨rfl, hB9⟩) | ((with_reducible refine (LCI.out _ hw6').mono ?_); rintro e w9 ⟨rfl, hB9⟩) | ((with_reducible refine (LCD.out _ hw6').mono ?_); rintro e w9 ⟨rfl, hB9⟩) | ((with_reducible refine (LCN.out _ hw6').mono ?_); rintro e w9 ⟨rfl, hB9⟩) | ((with_reducible refine (LCA.out _ hw6').mono ?_); rintro e w9 ⟨rfl, hB9⟩) | ((with_reducible refine (LCB.out _ hw6').mono ?_); rintro e w9 ⟨rfl, hB9⟩)); have hw6' := hw6'.below hB9; clear hB9)
    go_meet
    exact ⟨rfl, hw6'⟩
  case rest =>
    obtain ⟨rfl, hwc⟩ := hcut
    have LCA0 := LCA1
    clear L0 LCA1 hw6'
    by_cases r0 : 0 ≤ r
    · by_cases r1 : r ≤ 1099511627776
      · by_cases y0 : -1099511627776 ≤ y
        · by_cases y1 : y < 1099511627776
          · by_cases hd : x - y ≤ r ∧ y - x ≤ r
            · obtain ⟨hd1, hd2⟩ := hd
              go_upto_region 9 with fail
              go_cut [155] (fun s wx => s = .bool false ∧ Has W wx G)
              case first =>
                go_wp2
                go_meet
                exact ⟨congrArg Value.bool (by simp; omega), hwc⟩
              case rest =>
                clear hwc
                obtain ⟨rfl, hwc⟩ := hcut
                have hwy : inW y = true := by simp [inW, y0, y1]
                have htol : tol a r = true := by simp [tol, HA.out, r0, r1]
                have hgr := fun w' (h : Has W w' G) => grow_calls W w' G h _ a JA r
                have hsh := fun w' Hg (h : Has W w' (Hg ++ G)) => shrink_calls W w' _ h _ a (JA.mono fun p hp => List.mem_append_right Hg hp) r
                rw [show growOut a r = growL r a from if_pos htol, show tolErr a r = 0 from if_pos htol] at hgr
                rw [show shrinkOut a r = shrinkL r a from if_pos htol, show tolErr a r = 0 from if_pos htol] at hsh
                have HGR := Lib.hid hgr
                have HSH := Lib.hid hsh
                have HWY := Lib.hid hwy
                clear hgr hsh htol hwy
                have hgy : inB a x = true → (isSet (growL r a) && inB (growL r a) y) = true := fun h => by
                  rw [grow_set HA.out r0, Bool.true_and]
                  exact ((grow_spec HA.out r0).2.2 y).2 ⟨HWY.out, x, h, by omega, by omega⟩
                have hsy : inB (shrinkL r a) x = true → inB a y = true := fun h => ((shrink_spec HA.out r0).2.2 x).1 h |>.2 y HWY.out (by omega) (by omega)
                have hskS := shrink_set HA.out r0
                have HGY := Lib.hid hgy
                have HSY := Lib.hid hsy
                clear hgy hsy
                go_wp2_with fail
                refine (HGR.out _ hwc).mono ?_
                rintro e w7 ⟨g, Hg, rfl, hg, hw7⟩
                obtain ⟨gro, grc, rfl⟩ := sl_form hg
                go_wp2_with fail
                refine (HSH.out w7 Hg hw7).mono ?_
                rintro e w8 ⟨k, Hk, rfl, hk, hw8⟩
                obtain ⟨ko, kc, rfl⟩ := sl_form hk
                generalize growL r a = gr at *
                generalize shrinkL r a = sk at *
                clear HGR HSH hw7
                cases hsk : inB sk x with
                | false =>
                  have LGY : (∀ w', Has W w' (Hk ++ (Hg ++ G)) → Calls Try.prog 26 #[.slice gro gr.length grc, .int .i64 y] w' fun e w'' => e = .returned (.bool (isSet gr && inB gr y)) ∧ Below w'.heap.size w' w'') := fun w' h => lhas_calls W w' _ h _ gr (hg.read fun p hp => List.mem_append_right _ (List.mem_append_left _ hp)) y
                  have LSX : Hid (∀ w', Has W w' (Hk ++ (Hg ++ G)) → Calls Try.prog 26 #[.slice ko sk.length kc, .int .i64 x] w' fun e w'' => e = .returned (.bool false) ∧ Below w'.heap.size w' w'') := fun w' h => by
                    have h1 := lhas_calls W w' _ h _ sk (hk.read fun p hp => List.mem_append_left _ hp) x
                    rw [hskS, Bool.true_and, hsk] at h1
                    exact h1
                  have LAY : (∀ w', Has W w' (Hk ++ (Hg ++ G)) → Calls Try.prog 26 #[.slice ao a.length ac, .int .i64 y] w' fun e w'' => e = .returned (.bool (inB a y)) ∧ Below w'.heap.size w' w'') := fun w' h => by
                    have h1 := lhas_calls W w' _ h _ a (JA.mono fun p hp => List.mem_append_right _ (List.mem_append_right _ hp)) y
                    rw [HA.out, Bool.true_and] at h1
                    exact h1
                  have LCA := LCA0
                  clear HP LCA0 HGY
                  have LGY := Lib.hid LGY
                  have LAY := Lib.hid LAY
                  clear hsk hskS hg hk
                  go_wp2_with (first | (go_at_call 26; (first | ((with_reducible refine (LCA.out _ hw8.right.right).mono ?_); rintro e w9 ⟨rfl, hB9⟩) | ((with_reducible refine (LGY.out _ hw8).mono ?_); rintro e w9 ⟨rfl, hB9⟩) | ((with_reducible refine (LSX.out _ hw8).mono ?_); rintro e w9 ⟨rfl, hB9⟩) | ((with_reducible refine (LAY.out _ hw8).mono ?_); rintro e w9 ⟨rfl, hB9⟩)); have hw8 := hw8.below hB9; clear hB9) | (go_at_call 8; refine (alive_below _).mono ?_; rintro e w9 ⟨rfl, hB9⟩))
                  go_ret
                  exact ⟨rfl, hGall _ ((hw8.below hB9).right.right)⟩
                | true =>
                  have LGY : (∀ w', Has W w' (Hk ++ (Hg ++ G)) → Calls Try.prog 26 #[.slice gro gr.length grc, .int .i64 y] w' fun e w'' => e = .returned (.bool (isSet gr && inB gr y)) ∧ Below w'.heap.size w' w'') := fun w' h => lhas_calls W w' _ h _ gr (hg.read fun p hp => List.mem_append_right _ (List.mem_append_left _ hp)) y
                  have LSX : Hid (∀ w', Has W w' (Hk ++ (Hg ++ G)) → Calls Try.prog 26 #[.slice ko sk.length kc, .int .i64 x] w' fun e w'' => e = .returned (.bool true) ∧ Below w'.heap.size w' w'') := fun w' h => by
                    have h1 := lhas_calls W w' _ h _ sk (hk.read fun p hp => List.mem_append_left _ hp) x
                    rw [hskS, Bool.true_and, hsk] at h1
                    exact h1
                  have LAY : (∀ w', Has W w' (Hk ++ (Hg ++ G)) → Calls Try.prog 26 #[.slice ao a.length ac, .int .i64 y] w' fun e w'' => e = .returned (.bool (inB a y)) ∧ Below w'.heap.size w' w'') := fun w' h => by
                    have h1 := lhas_calls W w' _ h _ a (JA.mono fun p hp => List.mem_append_right _ (List.mem_append_right _ hp)) y
                    rw [HA.out, Bool.true_and] at h1
                    exact h1
                  have LCA := LCA0
                  clear HP LCA0 HGY
                  rw [HSY.out hsk] at LAY
                  have LGY := Lib.hid LGY
                  have LAY := Lib.hid LAY
                  clear hsk hskS hg hk
                  go_wp2_with (first | (go_at_call 26; (first | ((with_reducible refine (LCA.out _ hw8.right.right).mono ?_); rintro e w9 ⟨rfl, hB9⟩) | ((with_reducible refine (LGY.out _ hw8).mono ?_); rintro e w9 ⟨rfl, hB9⟩) | ((with_reducible refine (LSX.out _ hw8).mono ?_); rintro e w9 ⟨rfl, hB9⟩) | ((with_reducible refine (LAY.out _ hw8).mono ?_); rintro e w9 ⟨rfl, hB9⟩)); have hw8 := hw8.below hB9; clear hB9) | (go_at_call 8; refine (alive_below _).mono ?_; rintro e w9 ⟨rfl, hB9⟩))
                  go_ret
                  exact ⟨rfl, hGall _ ((hw8.below hB9).right.right)⟩
            · by_cases hxy : x < y
              · have hd' : r < y - x := by omega
                go_wp2_with (go_at_call 8; refine (alive_below _).mono ?_; rintro e w9 ⟨rfl, hB9⟩)
                all_goals
                  go_ret
                  exact ⟨rfl, hGall _ (hwc.below hB9)⟩
              · have hyx : y ≤ x := by omega
                have hd' : r < x - y := by omega
                go_wp2_with (go_at_call 8; refine (alive_below _).mono ?_; rintro e w9 ⟨rfl, hB9⟩)
                all_goals
                  go_ret
                  exact ⟨rfl, hGall _ (hwc.below hB9)⟩
          · have y2 : 1099511627776 ≤ y := by omega
            go_wp2_with (go_at_call 8; refine (alive_below _).mono ?_; rintro e w9 ⟨rfl, hB9⟩)
            all_goals
              go_ret
              exact ⟨rfl, hGall _ (hwc.below hB9)⟩
        · have y2 : y < -1099511627776 := by omega
          go_wp2_with (go_at_call 8; refine (alive_below _).mono ?_; rintro e w9 ⟨rfl, hB9⟩)
          all_goals
            go_ret
            exact ⟨rfl, hGall _ (hwc.below hB9)⟩
      · have r2 : 1099511627776 < r := by omega
        go_wp2_with (go_at_call 8; refine (alive_below _).mono ?_; rintro e w9 ⟨rfl, hB9⟩)
        all_goals
          go_ret
          exact ⟨rfl, hGall _ (hwc.below hB9)⟩
    · have r2 : r < 0 := by omega
      go_wp2_with (go_at_call 8; refine (alive_below _).mono ?_; rintro e w9 ⟨rfl, hB9⟩)
      all_goals
        go_ret
        exact ⟨rfl, hGall _ (hwc.below hB9)⟩

end Go.Proofs.Ytifeapnhemolgaa.Wk
