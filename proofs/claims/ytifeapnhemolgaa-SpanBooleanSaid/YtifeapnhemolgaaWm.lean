/- The specification's Made. -/
import Derived.Test.YtifeapnhemolgaaWl
import Derived.Test.YtifeapnhemolgaaWg
namespace Go.Proofs.Ytifeapnhemolgaa.Wk
open Go Go.RowKit Go.Proofs.Ytifeapnhemolgaa.HL Go.Proofs.Ytifeapnhemolgaa.Pl

theorem putStep_size (x : Int) (s : List Int × Bool) (y : Int) : (putStep x s y).1.length + s.2.toNat ≤ s.1.length + 1 + (putStep x s y).2.toNat := by
  unfold putStep
  obtain ⟨o, d⟩ := s
  cases d <;> by_cases h1 : x ≤ y <;> by_cases h2 : y = x <;> simp [h1, h2]

theorem putFold_size (x : Int) : ∀ (l : List Int) (s : List Int × Bool), (l.foldl (putStep x) s).1.length + s.2.toNat ≤ s.1.length + l.length + (l.foldl (putStep x) s).2.toNat
  | [], s => by simp
  | y :: l, s => by
    have h1 := putFold_size x l (putStep x s y)
    have h2 := putStep_size x s y
    simp only [List.foldl_cons, List.length_cons]
    omega

/-- put adds one number at most. -/
theorem putL_length (l : List Int) (x : Int) : (putL l x).length ≤ l.length + 1 := by
  have := putFold_size x l ([], false)
  unfold putL
  generalize l.foldl (putStep x) ([], false) = r at this
  obtain ⟨o, d⟩ := r
  cases d <;> simp at this ⊢ <;> omega

theorem endsOf_length (l : List Sp) : ∀ e, (endsOf e l).length ≤ e.length + 2 * l.length := by
  induction l with
  | nil => intro e; simp [endsOf]
  | cons s l ih =>
    intro e
    have h1 := ih (putL (putL e s.lo) s.hi)
    have h2 := putL_length (putL e s.lo) s.hi
    have h3 := putL_length e s.lo
    simp only [endsOf, List.foldl_cons, List.length_cons] at h1 ⊢
    omega

theorem endsOf_snoc (e : List Int) (l : List Sp) (k : Nat) (h : k < l.length) : endsOf e (l.take (k + 1)) = putL (putL (endsOf e (l.take k)) l[k].lo) l[k].hi := by
  unfold endsOf
  rw [List.take_succ_eq_append_getElem h, List.foldl_append]
  rfl

/-- From place i on. -/
theorem piecesL_drop (keep : Int → Bool) (l : List Int) (i : Nat) (h : i + 1 < l.length) (out : List Sp) :
    piecesL keep (l.drop i) out = piecesL keep (l.drop (i + 1)) (if keep (l[i]'(by omega)) then madeStep out (l[i]'(by omega)) l[i + 1] else out) := by
  have e1 : l.drop i = l[i]'(by omega) :: l.drop (i + 1) := List.drop_eq_getElem_cons (by omega)
  have e2 : l.drop (i + 1) = l[i + 1] :: l.drop (i + 1 + 1) := List.drop_eq_getElem_cons h
  rw [e1, e2]
  rfl

theorem piecesL_end (keep : Int → Bool) (l : List Int) (i : Nat) (h : l.length ≤ i + 1) (out : List Sp) : piecesL keep (l.drop i) out = out := by
  rcases Nat.lt_or_ge i l.length with h1 | h1
  · have e1 : l.drop i = [l[i]] := by
      rw [List.drop_eq_getElem_cons h1, List.drop_of_length_le (by omega)]
    rw [e1]
    rfl
  · rw [List.drop_of_length_le h1]
    rfl

theorem madeStep_length (out : List Sp) (x y : Int) : (madeStep out x y).length ≤ out.length + 1 := by
  unfold madeStep
  split
  · simp
  · split <;> simp

theorem madeStep_same {out : List Sp} {p : Sp} {x y : Int} (hp : out[out.length - 1]? = some p) (h : p.hi = x) : madeStep out x y = out.set (out.length - 1) ⟨p.lo, y⟩ := by
  unfold madeStep
  rw [List.getLast?_eq_getElem?, hp]
  simp [h]

theorem madeStep_new {out : List Sp} {p : Sp} {x y : Int} (hp : out[out.length - 1]? = some p) (h : ¬ p.hi = x) : madeStep out x y = out ++ [⟨x, y⟩] := by
  unfold madeStep
  rw [List.getLast?_eq_getElem?, hp]
  simp [h]

/-- A new list of spans is handed back. -/
def MadeS (S : World) (H : Hp) (out : List Sp) (e : Ending) (w' : World) : Prop :=
  ∃ v Hs, e = .returned v ∧ SlR 37 2 v out.length (spc out) Hs ∧ Has S w' (Hs ++ H)

theorem keeps_below (kind : Nat) (hk : kind ≤ 2) (a b : Bool) : ∀ w, Calls Try.prog 53 #[.int .i64 kind, .bool a, .bool b] w fun e w' => e = .returned (.bool (keepB kind a b)) ∧ Below w.heap.size w w' :=
  fun w => (keeps_calls w kind hk a b).mono fun _ _ ⟨he, hb⟩ => ⟨he, hb ▸ Below.refl _ _⟩

set_option maxHeartbeats 6400000 in
set_option maxRecDepth 100000 in
theorem made_calls (S w : World) (H : Hp) (hw : Has S w H) (kind : Nat) (hkd : kind ≤ 2) (va vb : Value) (la lb : List Sp) (ha : SlIn H 2 va la.length (spc la)) (hb : SlIn H 2 vb lb.length (spc lb)) (hma : la.length ≤ 1000) (hmb : lb.length ≤ 1000) :
    Calls Try.prog 34 #[.int .i64 kind, va, vb] w (MadeS S H (madeL kind la lb)) := by
  obtain ⟨i0, hi, hz0, hz1, hz2⟩ := info_parts infoSp
  have hinA := fun w' H' (h : Has S w' (H' ++ H)) x => in_calls S w' (H' ++ H) h va la (ha.mono fun p hp => List.mem_append_right _ hp) x (by omega)
  have hinB := fun w' H' (h : Has S w' (H' ++ H)) x => in_calls S w' (H' ++ H) h vb lb (hb.mono fun p hp => List.mem_append_right _ hp) x (by omega)
  obtain ⟨_, aa, ca, rfl, hca, hra⟩ := ha
  obtain ⟨_, ab, cb, rfl, hcb, hrb⟩ := hb
  have HIA := Lib.hid hinA
  have HIB := Lib.hid hinB
  clear hinA hinB
  go_enter Try.func34, Try.ntmps34
  go_wp2
  go_loopw [7, 8] (fun v i wr => ∃ k : Nat, k ≤ la.length ∧ i = .int .i64 k ∧ ∃ out Hs, Hid (out = endsOf [] (la.take k)) ∧ out.length ≤ 2 * k ∧ SlR 3 1 v out.length (inc out) Hs ∧ Has S wr (Hs ++ H)) (fun _ i _ => la.length - (intOf i).toNat)
  case atStart => exact ⟨0, Nat.zero_le _, rfl, [], [], rfl, by simp, SlR.nil _ _, hw⟩
  case round =>
    obtain ⟨k, hk, rfl, out, Hs, ho, hlo, hv, hw1⟩ := hrel
    by_cases hlt : k < la.length
    · obtain ⟨ba, oa, rfl, ra⟩ := hra (by omega)
      have hnext : Hid (endsOf [] (la.take (k + 1)) = putL (putL out la[k].lo) la[k].hi) := by
        unfold Hid
        rw [endsOf_snoc _ _ _ hlt, ho.out]
      have hl1 := putL_length out la[k].lo
      have hl2 := putL_length (putL out la[k].lo) la[k].hi
      have x0 := fun x : Cw (cls true (fun w' => Has S w' H)) => (sp_cells (x.h rfl) ra (List.getElem?_eq_getElem hlt)).1
      have x1 := fun x : Cw (cls true (fun w' => Has S w' H)) => (sp_cells (x.h rfl) ra (List.getElem?_eq_getElem hlt)).2
      haveI hne := clsTrue (S := fun w' => Has S w' H) hw1.right
      go_wp2
      refine held_start (fun w' => Has S w' H) [] (by kernel_rfl) ?_
      refine held_seg true [true,true,true,true,true,true,false,true,true,true,true,true] 3 (by kernel_rfl) hw1.right.drew ?_
      simp only [pickB]
      repeat (go_big_quiet_step (fail))
      refine wpQuiet_nil ?_
      refine held_one 6 (by kernel_rfl) rfl rfl fun K hK => ?_
      go_simp
      refine (put_calls S _ (Hs ++ H) hw1.drew _ out (hv.read fun p hp => List.mem_append_left _ hp) la[k].lo (by omega)).mono ?_
      rintro e w2 ⟨v2, Hs2, rfl, hv2, hw2⟩
      refine hK _ _ (fun _ => hw2.right.right) ?_
      clear hK K
      refine held_one 12 (by kernel_rfl) rfl rfl fun K hK => ?_
      go_simp
      refine (put_calls S _ (Hs2 ++ (Hs ++ H)) hw2 _ (putL out la[k].lo) (hv2.read fun p hp => List.mem_append_left _ hp) la[k].hi (by omega)).mono ?_
      rintro e w3 ⟨v3, Hs3, rfl, hv3, hw3⟩
      refine hK _ _ (fun _ => hw3.right.right.right) ?_
      clear hK K
      refine held_seg false [false,false,false,false,false,false,false,false,false,false,false,false,false,true] 0 (by kernel_rfl) hw3.right.right.right ?_
      simp only [pickB]
      repeat (go_big_quiet_step (fail))
      refine wpQuiet_nil ?_
      refine held_done (by kernel_rfl) ?_ _
      go_wp2
      refine ⟨⟨k + 1, by omega, by go_num, _, Hs3, hnext.out.symm, by omega, hv3, ?_⟩, by simp [intOf]; omega⟩
      exact hw3.sub (List.Sublist.append_left ((List.sublist_append_right _ _).trans (List.sublist_append_right _ _)) _)
    · obtain rfl : k = la.length := by omega
      have h0 : Hid (out = endsOf [] la) := by
        have := ho.out
        rwa [List.take_length] at this
      have hl0 := hlo
      clear ho hlo
      go_wp2
      go_loopw [7, 9] (fun v i wr => ∃ k : Nat, k ≤ lb.length ∧ i = .int .i64 k ∧ ∃ out Hs, Hid (out = endsOf (endsOf [] la) (lb.take k)) ∧ out.length ≤ 2 * la.length + 2 * k ∧ SlR 3 1 v out.length (inc out) Hs ∧ Has S wr (Hs ++ H)) (fun _ i _ => lb.length - (intOf i).toNat)
      case atStart => exact ⟨0, Nat.zero_le _, rfl, out, Hs, h0, by omega, hv, hw1⟩
      case round =>
        clear hw1 hv h0 hl0 Hs out hlt
        obtain ⟨k, hk, rfl, out, Hs, ho, hlo, hv, hw1⟩ := hrel
        by_cases hlt : k < lb.length
        · obtain ⟨ba, oa, rfl, ra⟩ := hrb (by omega)
          have hnext : Hid (endsOf (endsOf [] la) (lb.take (k + 1)) = putL (putL out lb[k].lo) lb[k].hi) := by
            unfold Hid
            rw [endsOf_snoc _ _ _ hlt, ho.out]
          have hl1 := putL_length out lb[k].lo
          have hl2 := putL_length (putL out lb[k].lo) lb[k].hi
          have x0 := fun x : Cw (cls true (fun w' => Has S w' H)) => (sp_cells (x.h rfl) ra (List.getElem?_eq_getElem hlt)).1
          have x1 := fun x : Cw (cls true (fun w' => Has S w' H)) => (sp_cells (x.h rfl) ra (List.getElem?_eq_getElem hlt)).2
          haveI hne := clsTrue (S := fun w' => Has S w' H) hw1.right
          go_wp2
          refine held_start (fun w' => Has S w' H) [] (by kernel_rfl) ?_
          refine held_seg true [true,true,true,true,true,true,false,true,true,true,true,true] 3 (by kernel_rfl) hw1.right.drew ?_
          simp only [pickB]
          repeat (go_big_quiet_step (fail))
          refine wpQuiet_nil ?_
          refine held_one 6 (by kernel_rfl) rfl rfl fun K hK => ?_
          go_simp
          refine (put_calls S _ (Hs ++ H) hw1.drew _ out (hv.read fun p hp => List.mem_append_left _ hp) lb[k].lo (by omega)).mono ?_
          rintro e w2 ⟨v2, Hs2, rfl, hv2, hw2⟩
          refine hK _ _ (fun _ => hw2.right.right) ?_
          clear hK K
          refine held_one 12 (by kernel_rfl) rfl rfl fun K hK => ?_
          go_simp
          refine (put_calls S _ (Hs2 ++ (Hs ++ H)) hw2 _ (putL out lb[k].lo) (hv2.read fun p hp => List.mem_append_left _ hp) lb[k].hi (by omega)).mono ?_
          rintro e w3 ⟨v3, Hs3, rfl, hv3, hw3⟩
          refine hK _ _ (fun _ => hw3.right.right.right) ?_
          clear hK K
          refine held_seg false [false,false,false,false,false,false,false,false,false,false,false,false,false,true] 0 (by kernel_rfl) hw3.right.right.right ?_
          simp only [pickB]
          repeat (go_big_quiet_step (fail))
          refine wpQuiet_nil ?_
          refine held_done (by kernel_rfl) ?_ _
          go_wp2
          refine ⟨⟨k + 1, by omega, by go_num, _, Hs3, hnext.out.symm, by omega, hv3, ?_⟩, by simp [intOf]; omega⟩
          exact hw3.sub (List.Sublist.append_left ((List.sublist_append_right _ _).trans (List.sublist_append_right _ _)) _)
        · obtain rfl : k = lb.length := by omega
          have h0 : Hid (madeL kind la lb = piecesL (fun x => keepB kind (inB la x) (inB lb x)) (out.drop 0) []) := by
            have := ho.out
            rw [List.take_length] at this
            rw [this]
            rfl
          have hl0 := hlo
          clear ho hlo
          generalize hends : out = ends at *
          have he := Lib.hid hends
          clear hends he
          have hmE := hv.read (H := Hs ++ H) (fun p hp => List.mem_append_left _ hp)
          go_wp2
          go_loopw [10, 11] (fun v i wr => ∃ k : Nat, i = .int .i64 k ∧ k ≤ ends.length ∧ ∃ out Hs', Hid (madeL kind la lb = piecesL (fun x => keepB kind (inB la x) (inB lb x)) (ends.drop k) out) ∧ out.length ≤ k ∧ SlR 37 2 v out.length (spc out) Hs' ∧ Has S wr (Hs' ++ (Hs ++ H))) (fun _ i _ => ends.length - (intOf i).toNat)
          case atStart => exact ⟨0, rfl, Nat.zero_le _, [], [], h0, by simp, SlR.nil _ _, hw1⟩
          case round =>
            clear hw1 h0
            obtain ⟨k, rfl, hk, out, Hs', ho, hlo, hvo, hw1⟩ := hrel
            by_cases hlt : k + 1 < ends.length
            · obtain ⟨be, oe, cape, rfl, hce, re, _⟩ := hv.at (by omega)
              have hmH : ∀ p, p ∈ Hs → p ∈ Hs' ++ (Hs ++ H) := fun p hp => List.mem_append_right _ (List.mem_append_left _ hp)
              have g0 := fun w' (h : Has S w' (Hs' ++ (Hs ++ H))) => int_cell h (re.mono hmH) (show k < ends.length by omega)
              have g1 := fun w' (h : Has S w' (Hs' ++ (Hs ++ H))) => int_cell h (re.mono hmH) hlt
              have hstep : Hid (madeL kind la lb = piecesL (fun x => keepB kind (inB la x) (inB lb x)) (ends.drop (k + 1)) (if keepB kind (inB la ends[k]) (inB lb ends[k]) then madeStep out ends[k] ends[k + 1] else out)) := by
                unfold Hid
                rw [ho.out]
                exact piecesL_drop _ _ _ hlt _
              have hA : ∀ x : Cw (Kept wr), _ := fun x => HIA.out x.w (Hs' ++ Hs) (by rw [List.append_assoc]; exact hw1.cw x) ends[k]
              have hB : ∀ x : Cw (Kept wr), _ := fun x => HIB.out x.w (Hs' ++ Hs) (by rw [List.append_assoc]; exact hw1.cw x) ends[k]
              clear ho
              generalize inB la ends[k] = qa at *
              generalize inB lb ends[k] = qb at *
              have hK := keeps_below kind hkd qa qb
              generalize keepB kind qa qb = q at *
              have HA := Lib.hid hA
              have HB := Lib.hid hB
              have HK := Lib.hid hK
              have G0 := Lib.hid g0
              have G1 := Lib.hid g1
              clear hA hB hK g0 g1
              have c0 := fun x : Cw (Kept wr) => G0.out x.w (hw1.cw x)
              cases q with
              | false =>
                go_wp2
                refine region_kept (by kernel_rfl) (by kernel_rfl) ?_
                iterate 12 (go_big_quiet_step ((go_at_call 54; exact Calls.kept (HA.out _))))
                go_big_quiet_step ((go_at_call 54; exact Calls.kept (HB.out _)))
                repeat (go_big_quiet_step ((go_at_call 53; exact Calls.kept (HK.out _))))
                refine wpQuiet_nil fun w5 hw5 => ?_
                go_wp2
                exact ⟨⟨k + 1, by go_num, by omega, out, Hs', hstep, by omega, hvo, (hw1.below hw5)⟩, by simp [intOf]; omega⟩
              | true =>
                by_cases h0 : 0 < out.length
                · obtain ⟨p, hp⟩ : ∃ p, out[out.length - 1]? = some p := ⟨_, List.getElem?_eq_getElem (by omega)⟩
                  obtain ⟨bo, oo, co, rfl, hco, ro, hst⟩ := hvo.at h0
                  have PL := Lib.hid (fun w' (h : Has S w' (Hs' ++ (Hs ++ H))) => (sp_cells h (ro.mono fun q hq => List.mem_append_left _ hq) hp).2)
                  have Hp := Lib.hid hp
                  clear hp
                  by_cases heq : p.hi = ends[k]
                  · have hne : (p.hi == ends[k]) = true := by simp [heq]
                    have EQ := Lib.hid heq
                    clear heq
                    go_wp2
                    refine region_kept (by kernel_rfl) (by kernel_rfl) ?_
                    iterate 12 (go_big_quiet_step ((go_at_call 54; exact Calls.kept (HA.out _))))
                    go_big_quiet_step ((go_at_call 54; exact Calls.kept (HB.out _)))
                    repeat (go_big_quiet_step ((go_at_call 53; exact Calls.kept (HK.out _))))
                    refine wpQuiet_nil fun w5 hw5 => ?_
                    have hw6 := hw1.below hw5
                    clear c0
                    have c0 := fun x : Cw (Kept w5) => G0.out x.w (hw6.cw x)
                    have pl := fun x : Cw (Kept w5) => PL.out x.w (hw6.cw x)
                    go_wp2
                    refine region_kept (by kernel_rfl) (by kernel_rfl) ?_
                    repeat (go_big_quiet_step (fail))
                    refine wpQuiet_nil fun w7 hw7 => ?_
                    have hw8 := hw6.below hw7
                    have fz := (hst S w7 (Hs ++ H) hw8).1 (oo + (out.length - 1) * 2 + 1)
                    obtain ⟨Hs9, hv9, hw9⟩ := (hst S w7 (Hs ++ H) hw8).2 ((out.length - 1) * 2 + 1) (.int .i64 ends[k + 1]) (by omega)
                    rw [← Nat.add_assoc] at hw9
                    have e1 := G1.out w7 hw8
                    have p1 := PL.out w7 hw8
                    have HV := Lib.hid hv9
                    have HW := Lib.hid hw9
                    clear hv9 hw9
                    go_wp2
                    have e : madeStep out ends[k] ends[k + 1] = out.set (out.length - 1) ⟨p.lo, ends[k + 1]⟩ := madeStep_same Hp.out EQ.out
                    refine ⟨⟨k + 1, by go_num, by omega, madeStep out ends[k] ends[k + 1], Hs9, hstep, ?_, ?_, HW.out⟩, by simp [intOf]; omega⟩
                    · rw [e]; simp <;> omega
                    · rw [e, List.length_set, ← spc_set _ _ _ Hp.out]; exact HV.out
                  · have hne : (p.hi == ends[k]) = false := by simp [heq]
                    have NE := Lib.hid heq
                    clear heq
                    go_wp2
                    refine region_kept (by kernel_rfl) (by kernel_rfl) ?_
                    iterate 12 (go_big_quiet_step ((go_at_call 54; exact Calls.kept (HA.out _))))
                    go_big_quiet_step ((go_at_call 54; exact Calls.kept (HB.out _)))
                    repeat (go_big_quiet_step ((go_at_call 53; exact Calls.kept (HK.out _))))
                    refine wpQuiet_nil fun w5 hw5 => ?_
                    have hw6 := hw1.below hw5
                    clear c0
                    have c0 := fun x : Cw (Kept w5) => G0.out x.w (hw6.cw x)
                    have pl := fun x : Cw (Kept w5) => PL.out x.w (hw6.cw x)
                    go_wp2
                    refine region_kept (by kernel_rfl) (by kernel_rfl) ?_
                    repeat (go_big_quiet_step (fail))
                    refine wpQuiet_nil fun w7 hw7 => ?_
                    have hw8 := hw6.below hw7
                    go_wp2
                    haveI hne := clsTrue (S := fun w' => Has S w' (Hs ++ H)) hw8.right
                    have x0 := fun x : Cw (cls true (fun w' => Has S w' (Hs ++ H))) => int_cell (x.h rfl) (re.mono fun p hp => List.mem_append_left _ hp) (show k < ends.length by omega)
                    have x1 := fun x : Cw (cls true (fun w' => Has S w' (Hs ++ H))) => int_cell (x.h rfl) (re.mono fun p hp => List.mem_append_left _ hp) hlt
                    refine held_start (fun w' => Has S w' (Hs ++ H)) [] (by kernel_rfl) ?_
                    refine held_seg true [true,true,true,true,true,true,true,true,true,true,true] 3 (by kernel_rfl) hw8.right.drew ?_
                    simp only [pickB]
                    repeat (go_big_quiet_step (fail))
                    refine wpQuiet_nil ?_
                    refine held_one 11 (by kernel_rfl) rfl rfl fun K hK => ?_
                    clear x0 x1
                    go_simp
                    refine hK _ _ (fun _ => (hw8.right.more _).drew) ?_
                    clear hK K
                    refine held_one 12 (by kernel_rfl) rfl rfl fun K hK => ?_

                    refine wp_append_lit (S := S) (X := w7.drew) _ _ 22 rfl Try.underlying22 hi hz0 hz1 hz2 rfl (by decide) rfl rfl (by simp) hvo hw8.drew rfl rfl (by unfold maxLen; omega) (by omega) ?_
                    intro v9 w9 Hs9 hv9 hw9 _
                    show K (Act.put _ (some 112) v9) w9
                    go_simp
                    refine hK _ _ (fun _ => hw9.right) ?_
                    clear hK K
                    refine held_seg false [false,false,false,false,false,false,false,false,false,false,false,false,false,true] 0 (by kernel_rfl) hw9.right ?_
                    simp only [pickB]
                    repeat (go_big_quiet_step (fail))
                    refine wpQuiet_nil ?_
                    refine held_done (by kernel_rfl) ?_ _
                    go_wp2
                    have e : madeStep out ends[k] ends[k + 1] = out ++ [⟨ends[k], ends[k + 1]⟩] := madeStep_new Hp.out NE.out
                    refine ⟨⟨k + 1, by go_num, by omega, madeStep out ends[k] ends[k + 1], Hs9, hstep, ?_, ?_, hw9⟩, by simp [intOf]; omega⟩
                    · rw [e]; simp <;> omega
                    · rw [e, spc_append, List.length_append]; exact hv9
                · obtain rfl : out = [] := List.eq_nil_of_length_eq_zero (by omega)
                  obtain ⟨ao, cap, rfl⟩ := int_form hvo
                  go_wp2
                  refine region_kept (by kernel_rfl) (by kernel_rfl) ?_
                  iterate 12 (go_big_quiet_step ((go_at_call 54; exact Calls.kept (HA.out _))))
                  go_big_quiet_step ((go_at_call 54; exact Calls.kept (HB.out _)))
                  repeat (go_big_quiet_step ((go_at_call 53; exact Calls.kept (HK.out _))))
                  refine wpQuiet_nil fun w5 hw5 => ?_
                  have hw6 := hw1.below hw5
                  clear c0
                  have c0 := fun x : Cw (Kept w5) => G0.out x.w (hw6.cw x)
                  go_wp2
                  refine region_kept (by kernel_rfl) (by kernel_rfl) ?_
                  repeat (go_big_quiet_step (fail))
                  refine wpQuiet_nil fun w7 hw7 => ?_
                  have hw8 := hw6.below hw7
                  go_wp2
                  haveI hne := clsTrue (S := fun w' => Has S w' (Hs ++ H)) hw8.right
                  have x0 := fun x : Cw (cls true (fun w' => Has S w' (Hs ++ H))) => int_cell (x.h rfl) (re.mono fun p hp => List.mem_append_left _ hp) (show k < ends.length by omega)
                  have x1 := fun x : Cw (cls true (fun w' => Has S w' (Hs ++ H))) => int_cell (x.h rfl) (re.mono fun p hp => List.mem_append_left _ hp) hlt
                  refine held_start (fun w' => Has S w' (Hs ++ H)) [] (by kernel_rfl) ?_
                  refine held_seg true [true,true,true,true,true,true,true,true,true,true,true] 3 (by kernel_rfl) hw8.right.drew ?_
                  simp only [pickB]
                  repeat (go_big_quiet_step (fail))
                  refine wpQuiet_nil ?_
                  refine held_one 11 (by kernel_rfl) rfl rfl fun K hK => ?_
                  clear x0 x1
                  go_simp
                  refine hK _ _ (fun _ => (hw8.right.more _).drew) ?_
                  clear hK K
                  refine held_one 12 (by kernel_rfl) rfl rfl fun K hK => ?_

                  refine wp_append_lit (S := S) (X := w7.drew) _ _ 22 rfl Try.underlying22 hi hz0 hz1 hz2 rfl (by decide) rfl rfl (by simp) hvo hw8.drew rfl rfl (by unfold maxLen; omega) (by omega) ?_
                  intro v9 w9 Hs9 hv9 hw9 _
                  show K (Act.put _ (some 112) v9) w9
                  go_simp
                  refine hK _ _ (fun _ => hw9.right) ?_
                  clear hK K
                  refine held_seg false [false,false,false,false,false,false,false,false,false,false,false,false,false,true] 0 (by kernel_rfl) hw9.right ?_
                  simp only [pickB]
                  repeat (go_big_quiet_step (fail))
                  refine wpQuiet_nil ?_
                  refine held_done (by kernel_rfl) ?_ _
                  go_wp2
                  have e : madeStep [] ends[k] ends[k + 1] = [] ++ [⟨ends[k], ends[k + 1]⟩] := rfl
                  refine ⟨⟨k + 1, by go_num, by omega, madeStep [] ends[k] ends[k + 1], Hs9, hstep, ?_, ?_, hw9⟩, by simp [intOf]; omega⟩
                  · rw [e]; simp <;> omega
                  · rw [e, spc_append, List.length_append]; exact hv9
            · have e : piecesL (fun x => keepB kind (inB la x) (inB lb x)) (ends.drop k) out = out := piecesL_end _ _ _ (by omega) _
              have hf : Hid (madeL kind la lb = out) := ho.out.trans e
              clear ho e
              obtain ⟨ae, ce, rfl⟩ := int_form hv
              obtain ⟨ao, cap, rfl⟩ := int_form hvo
              go_wp2
              go_ret
              refine ⟨_, Hs', rfl, by rw [hf.out]; exact hvo, ?_⟩
              exact hw1.sub (List.Sublist.append_left (List.sublist_append_right _ _) _)

end Go.Proofs.Ytifeapnhemolgaa.Wk
