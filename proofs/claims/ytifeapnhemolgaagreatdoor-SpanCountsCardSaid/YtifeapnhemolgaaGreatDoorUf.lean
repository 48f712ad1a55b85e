/- SpanCounts: its walk. -/
import Derived.Test.YtifeapnhemolgaaGreatDoorUe
import Derived.Deep.DeepCutAuto
namespace Go.Proofs.YtifeapnhemolgaaGreatDoor.Wk
open Go Go.RowKit Go.Proofs.YtifeapnhemolgaaGreatDoor.HL Go.Proofs.YtifeapnhemolgaaGreatDoor.Pl

theorem nth_val (S w : World) (H : Hp) (hw : Has S w H) (va : Value) (la : List Sp) (ha : SlIn H 2 va la.length (spc la)) (hs : isSet la = true) (i : Int) :
    Calls Tryz.prog 17 #[va, .int .i64 i] w fun e w' => ∃ y f, e = .returned (.tuple #[.int .i64 y, .int .i64 f]) ∧ ((0 ≤ i ∧ i < sizeP la ∧ nthL la i = some y ∧ f = 0) ∨ (¬ (0 ≤ i ∧ i < sizeP la) ∧ y = 0 ∧ f = 6)) ∧ Has S w' H := by
  refine (nth_ok S w H hw va la ha hs i).mono ?_
  rintro e w' ⟨he, hw'⟩
  by_cases hi : 0 ≤ i ∧ i < sizeP la
  · rw [if_pos hi] at he
    obtain ⟨y, hy, rfl⟩ := he
    exact ⟨y, 0, rfl, .inl ⟨hi.1, hi.2, hy, rfl⟩, hw'⟩
  · rw [if_neg hi] at he
    subst he
    exact ⟨0, 6, rfl, .inr ⟨hi, rfl, rfl⟩, hw'⟩

set_option maxHeartbeats 12800000 in
set_option maxRecDepth 100000 in
theorem counts_walk (W : World) (hL0 : LibOk W (Hall W)) (va vb : Value) (la lb : List Sp) (ha : SlIn (Hall W) 2 va la.length (spc la)) (hb : SlIn (Hall W) 2 vb lb.length (spc lb)) (hla : la.length ≤ maxLen) (hlb : lb.length ≤ maxLen) (x i : Int) :
    Calls Tryz.prog 4 #[va, vb, .int .i64 x, .int .i64 i] W fun e w' => e = .returned (.bool true) ∧ Below W.heap.size W w' := by
  have hsa := setOf_set la
  have hsb := setOf_set lb
  have la6 := setOf_length la
  have lb6 := setOf_length lb
  have HSA := Lib.hid (sets_calls W W (Hall W) (Has.all W) va la ha hla)
  have HSB := Lib.hid fun w' H' (h : Has W w' (H' ++ Hall W)) => sets_calls W w' (H' ++ Hall W) h vb lb (hb.mono fun p hp => List.mem_append_right _ hp) hlb
  obtain ⟨_, aa, ca, rfl, _, _⟩ := ha
  obtain ⟨_, ab, cb, rfl, _, _⟩ := hb
  clear hla hlb
  go_enter Tryz.func4, Tryz.ntmps4
  go_wp2_with fail
  refine HSA.out.mono ?_
  rintro e w0 ⟨v0, H0, rfl, hv0, hw0⟩
  obtain ⟨oA, cA, rfl⟩ := sl_form hv0
  go_wp2_with fail
  refine (HSB.out w0 H0 hw0).mono ?_
  rintro e w2 ⟨v1, H1, rfl, hv1, hw2⟩
  obtain ⟨oB, cB, rfl⟩ := sl_form hv1
  clear HSA HSB hw0
  have JA := hv0.read (H := H1 ++ (H0 ++ Hall W)) (fun p hp => List.mem_append_right _ (List.mem_append_left _ hp))
  have JB := hv1.read (H := H1 ++ (H0 ++ Hall W)) (fun p hp => List.mem_append_left _ hp)
  have hG : ∀ w', Has W w' (H1 ++ (H0 ++ Hall W)) → Below W.heap.size W w' := fun w' h => h.right.below_of_all
  have hL : LibOk W (H1 ++ (H0 ++ Hall W)) := (hL0.more H0).more H1
  clear hv0 hv1 hL0
  generalize setOf la = a at *
  generalize setOf lb = b at *
  generalize H1 ++ (H0 ++ Hall W) = G at *
  have ou := small_out (f := keepB 0) hsa hsb (by omega)
  have oi := small_out (f := keepB 1) hsa hsb (by omega)
  have su := chose_small (f := keepB 0) hsa hsb (by omega)
  have si := chose_small (f := keepB 1) hsa hsb (by omega)
  have lu := chosen_count (keepB 0) hsa hsb
  have li := chosen_count (keepB 1) hsa hsb
  have hsum : sizeP (chosen (keepB 0) a b) + sizeP (chosen (keepB 1) a b) = sizeP a + sizeP b := size_or_and hsa hsb su si (fun x => by
    rw [(chosen_spec (keepB 0) hsa hsb).2]
    cases hA : inB a x with
    | true => rw [set_inW hsa hA]; rfl
    | false => cases hB : inB b x with
      | true => rw [set_inW hsb hB]; rfl
      | false => simp [keepB]) (fun x => by
    rw [(chosen_spec (keepB 1) hsa hsb).2]
    cases hA : inB a x with
    | true => rw [set_inW hsa hA]; rfl
    | false => simp [keepB])
  have zu := rankP_le (isSet_ok su) 1099511627776
  have zi := rankP_le (isSet_ok si) 1099511627776
  have za := rankP_le (isSet_ok hsa) 1099511627776
  have zb := rankP_le (isSet_ok hsb) 1099511627776
  have zr := rankP_le (isSet_ok hsa) x
  have hU := union_calls W w2 G hw2 _ _ a b JA JB
  have hI := fun w' Hn (h : Has W w' (Hn ++ G)) => intersect_calls W w' _ h _ _ a b (JA.mono fun p hp => List.mem_append_right Hn hp) (JB.mono fun p hp => List.mem_append_right Hn hp)
  rw [ou.1, ou.2] at hU
  rw [oi.1, oi.2] at hI
  have HU := Lib.hid hU
  have HI := Lib.hid hI
  have SU := Lib.hid su
  have SI := Lib.hid si
  have SA := Lib.hid hsa
  have SB := Lib.hid hsb
  clear hU hI su si hsa hsb ou oi
  generalize chosen (keepB 0) a b = u at *
  generalize chosen (keepB 1) a b = v at *
  go_wp2_with fail
  refine HU.out.mono ?_
  rintro e w3 ⟨vu, Hu, rfl, hu, hw3⟩
  obtain ⟨oU, cU, rfl⟩ := sl_form hu
  go_wp2_with fail
  refine (HI.out w3 Hu hw3).mono ?_
  rintro e w4 ⟨vi, Hi, rfl, hi, hw4⟩
  obtain ⟨oI, cI, rfl⟩ := sl_form hi
  clear HU HI hw2 hw3
  have JU := hu.read (H := Hi ++ (Hu ++ G)) (fun p hp => List.mem_append_right _ (List.mem_append_left _ hp))
  have JI := hi.read (H := Hi ++ (Hu ++ G)) (fun p hp => List.mem_append_left _ hp)
  replace JA := JA.mono (H' := Hi ++ (Hu ++ G)) fun p hp => List.mem_append_right _ (List.mem_append_right _ hp)
  replace JB := JB.mono (H' := Hi ++ (Hu ++ G)) fun p hp => List.mem_append_right _ (List.mem_append_right _ hp)
  replace hG : ∀ w', Has W w' (Hi ++ (Hu ++ G)) → Below W.heap.size W w' := fun w' h => hG w' h.right.right
  replace hL := (hL.more Hu).more Hi
  clear hu hi
  generalize Hi ++ (Hu ++ G) = K at *
  have HNR := Lib.hid (fun y => nth_rank (set_sep SA.out).1 (isSet_ok SA.out) x y)
  have HRN := Lib.hid (fun z h0 => rank_nth (set_sep SA.out).1 (isSet_ok SA.out) i z h0)
  have zu0 : 0 ≤ sizeP u ∧ sizeP u ≤ 2199023255552 * u.length := zu
  have zi0 : 0 ≤ sizeP v ∧ sizeP v ≤ 2199023255552 * v.length := zi
  have za0 : 0 ≤ sizeP a ∧ sizeP a ≤ 2199023255552 * a.length := za
  have zb0 : 0 ≤ sizeP b ∧ sizeP b ≤ 2199023255552 * b.length := zb
  clear zu zi za zb
  go_wp2_with fail
  refine (size_ok W _ K hw4 _ u JU SU.out).mono ?_
  rintro e w5 ⟨rfl, hw5⟩
  go_wp2_with fail
  refine (size_ok W _ K hw5 _ v JI SI.out).mono ?_
  rintro e w6 ⟨rfl, hw6⟩
  go_wp2_with fail
  refine (size_ok W _ K hw6 _ a JA SA.out).mono ?_
  rintro e w7 ⟨rfl, hw7⟩
  go_wp2_with fail
  refine (size_ok W _ K hw7 _ b JB SB.out).mono ?_
  rintro e w8 ⟨rfl, hw8⟩
  go_wp2_with fail
  refine (rank_ok W _ K hw8 _ a JA SA.out x).mono ?_
  rintro e w9 ⟨rfl, hw9⟩
  generalize hr : rankP x a = r at *
  clear hr
  go_wp2_with fail
  refine (nth_val W _ K hw9 _ a JA SA.out r).mono ?_
  rintro e w10 ⟨y, f, rfl, hcond, hw10⟩
  go_wp2_with fail
  refine (size_ok W _ K hw10 _ a JA SA.out).mono ?_
  rintro e w11 ⟨rfl, hw11⟩
  go_upto_region 14 with fail
  go_cut [145] (fun s wx => s = .bool false ∧ Has W wx K)
  case first =>
    have lh := lhas_calls W _ K hw11 _ a JA x
    rw [SA.out, Bool.true_and] at lh
    rcases hcond with ⟨h0, hlt, hy, rfl⟩ | ⟨hn, rfl, rfl⟩
    · obtain ⟨hxy, hin⟩ := HNR.out y hy
      cases hA : inB a x with
      | false =>
        rw [hA] at lh
        have LH := Lib.hid lh
        clear lh hA hin hy HNR HRN
        go_wp2_with fail
        refine LH.out.mono ?_
        rintro e wh ⟨rfl, hB⟩
        go_wp2
        go_meet
        exact ⟨congrArg Value.bool (by simp; omega), hw11.below hB⟩
      | true =>
        rw [hA] at lh
        have LH := Lib.hid lh
        obtain rfl := hin hA
        clear lh hA hin hy HNR HRN
        go_wp2_with fail
        refine LH.out.mono ?_
        rintro e wh ⟨rfl, hB⟩
        go_wp2
        go_meet
        exact ⟨rfl, hw11.below hB⟩
    · have hge : sizeP a ≤ r := by omega
      clear lh HNR HRN
      go_wp2
      go_meet
      exact ⟨congrArg Value.bool (by simp; omega), hw11⟩
  case rest =>
  obtain ⟨rfl, hw12⟩ := hcut
  clear hw11 hcond HNR
  go_wp2_with fail
  refine (nth_val W _ K hw12 _ a JA SA.out i).mono ?_
  rintro e w13 ⟨z, g, rfl, hcond, hw13⟩
  go_wp2_with fail
  refine (rank_ok W _ K hw13 _ a JA SA.out z).mono ?_
  rintro e w14 ⟨rfl, hw14⟩
  have zk := rankP_le (isSet_ok SA.out) z
  generalize hk : rankP z a = k at *
  go_upto_region 18 with fail
  go_cut [186] (fun s wx => s = .bool false ∧ Has W wx K)
  case first =>
    have lh := lhas_calls W _ K hw14 _ a JA z
    rw [SA.out, Bool.true_and] at lh
    rcases hcond with ⟨h0, hlt, hz, rfl⟩ | ⟨hn, rfl, rfl⟩
    · obtain ⟨h1, h2⟩ := HRN.out z h0 hz
      rw [h2] at lh
      rw [hk] at h1
      subst h1
      have LH := Lib.hid lh
      clear lh h2 hz HRN hk
      go_wp2_with fail
      refine LH.out.mono ?_
      rintro e wh ⟨rfl, hB⟩
      go_wp2
      go_meet
      exact ⟨rfl, hw14.below hB⟩
    · clear lh HRN
      by_cases hi0 : 0 ≤ i
      · have hge : sizeP a ≤ i := by omega
        go_wp2
        go_meet
        exact ⟨congrArg Value.bool (by simp; omega), hw14⟩
      · have hlt : i < 0 := by omega
        go_wp2
        go_meet
        exact ⟨rfl, hw14⟩
  case rest =>
  obtain ⟨rfl, hw15⟩ := hcut
  clear hw14 hw13 hcond HRN hk
  go_wp2_with fail
  refine (text_calls W _ K hw15 hL.tab _ a JA).mono ?_
  rintro e w16 ⟨rfl, hw16⟩
  rw [if_pos SA.out]
  go_wp2_with fail
  refine (back_ok W _ K hw16 hL a SA.out).mono ?_
  rintro e w17 ⟨vb, Hb, rfl, hb, hw17⟩
  obtain ⟨oR, cR, rfl⟩ := sl_form hb
  go_wp2_with fail
  have hsm := same_calls W _ _ hw17 _ _ a a (hb.read fun p hp => List.mem_append_left _ hp) (JA.mono fun p hp => List.mem_append_right _ hp) (by omega)
  rw [decide_eq_true (rfl : a = a)] at hsm
  refine hsm.mono ?_
  rintro e w18 ⟨rfl, hB⟩
  have hw18 := hw17.below hB
  clear hB hsm
  go_wp2_with fail
  refine (alive_below _).mono ?_
  rintro e wz ⟨rfl, hB⟩
  go_wp2
  go_ret
  exact ⟨rfl, hG _ (hw18.below hB).right⟩

end Go.Proofs.YtifeapnhemolgaaGreatDoor.Wk
