/- The set of the pieces that a rule chooses. -/
import Derived.Test.YtifeapnhemolgaaGreatDoorWo
import Derived.Test.YtifeapnhemolgaaGreatDoorHj
import Derived.Test.YtifeapnhemolgaaGreatDoorWk
namespace Go.Proofs.YtifeapnhemolgaaGreatDoor.Wk
open Go Go.RowKit Go.Proofs.YtifeapnhemolgaaGreatDoor.HL Go.Proofs.YtifeapnhemolgaaGreatDoor.Pl

attribute [local go_sem] Oper.semAt_some

theorem pieces_calls (w : World) (aa ab : Option Addr) (na nb ca cb : Nat) : Calls Tryz.prog 52 #[.slice aa na ca, .slice ab nb cb] w fun e w' =>
    e = .returned (.func (.func 71) #[] #[.pointer (some ⟨w.heap.size, 0, none⟩), .pointer (some ⟨w.heap.size + 1, 0, none⟩)]) ∧ w' = (w.alloc (.cells #[.slice aa na ca] 22)).alloc (.cells #[.slice ab nb cb] 22) := by
  go_enter Tryz.func52, Tryz.ntmps52
  go_wp2
  go_ret
  exact ⟨rfl, rfl⟩

theorem pieces_stops (S w : World) (H : Hp) (hw : Has S w H) (B Bo ba bb : Nat) (Ta : TypeId) (va vb : Value) (la lb : List Sp) (hsa : isSet la = true) (hsb : isSet lb = true)
    (hma : (ba, Obj.cells #[va] Ta (0, 0)) ∈ H) (hmb : (bb, Obj.cells #[vb] Ta (0, 0)) ∈ H) (ha : SlIn H 2 va la.length (spc la)) (hb : SlIn H 2 vb lb.length (spc lb))
    (hH : ∀ p, p ∈ H → p.1 < B ∧ p.1 ≠ Bo) (hBl : Bo < w.heap.size) (hBo : ownB Bo w = none) :
    SeqStopsK Fence.wide 3 Tryz.prog 71 #[.pointer (some ⟨ba, 0, none⟩), .pointer (some ⟨bb, 0, none⟩)] encP (KeepB B Bo) (fun xs => xs = pairsL la lb (edgesL la lb)) (fun _ => True) (pairsL la lb (edgesL la lb)).length w := by
  intro l J Jx W hW hJ _ hY h0
  have hw1 : Has W W H := (hw.below hW).self
  refine callsIn_wide.2 ((pieces1_calls l ba bb Ta va vb la lb hsa hsb B Bo J Jx W H hw1 hma hmb ha hb hH (Nat.lt_of_lt_of_le hBl hW.size) ((ownB_below hW hBl).trans hBo) hJ hY h0).mono ?_)
  rintro e W' ⟨he, ⟨xs, h1, h2⟩ | ⟨pre, h2⟩⟩
  · exact ⟨he, .inl ⟨xs, h1, h2⟩⟩
  · exact ⟨he, .inr ⟨pre, trivial, h2⟩⟩

/-- Between two rounds of chosen: the pieces that were chosen lie in a slice of one's own. -/
def ChI (S : World) (H0 : Hp) (Bo : Nat) (f : Bool → Bool → Bool) (pre : List (Sp × Bool × Bool)) (W : World) : Prop :=
  ∃ v Hs, SlR 41 2 v (sel f pre).length (spc (sel f pre)) Hs ∧ Has S W ((Hs ++ [(Bo, .cells #[v] 22 (0, 0))]) ++ H0)

theorem chI_own {S : World} {H0 : Hp} {Bo B : Nat} {f : Bool → Bool → Bool} (hH : ∀ p, p ∈ H0 → p.1 < B) : OwnFrom B (ChI S H0 Bo f) := by
  rintro pre W W' row ⟨v, Hs, hv, hw⟩ hg hr
  refine ⟨v, Hs, hv, hw.grown hg fun p hp e => ?_⟩
  obtain ⟨h1, o, h2, h3⟩ := hr p.1 e.symm
  have h4 := hw.get p hp
  rw [h4] at h2
  cases h2
  rcases List.mem_append.1 hp with hp | hp
  · rcases List.mem_append.1 hp with hp | hp
    · rcases hv.own with ⟨_, rfl, _⟩ | ⟨b, o, rfl, hc, _⟩
      · simp at hp
      · simp at hp; subst hp; rw [hc] at h3; cases h3
    · simp at hp; subst hp; cases h3
  · have := hH p hp; omega

/-- What chosen hands back. -/
def chosenOut (f : Bool → Bool → Bool) (a b : List Sp) : List Sp := if isSet a && isSet b then (if 128 < (chosen f a b).length then [] else chosen f a b) else []
def chosenErr (f : Bool → Bool → Bool) (a b : List Sp) : Int := if isSet a && isSet b then (if 128 < (chosen f a b).length then 8 else 0) else 2

set_option maxHeartbeats 3200000 in
set_option maxRecDepth 100000 in
theorem chosen_calls (S w : World) (H : Hp) (hw : Has S w H) (va vb : Value) (la lb : List Sp) (ha : SlIn H 2 va la.length (spc la)) (hb : SlIn H 2 vb lb.length (spc lb))
    (g : FuncId) (f : Bool → Bool → Bool) (eg : ∀ args w, (callFunc g args).run Tryz.prog w = .ok (.enter g args) w)
    (hg : ∀ w a b, Calls Tryz.prog g #[.bool a, .bool b] w fun e w' => e = .returned (.bool (f a b)) ∧ Below w.heap.size w w') :
    Calls Tryz.prog 31 #[va, vb, .func (.func g) #[] #[]] w (MadeE S H (chosenOut f la lb) (chosenErr f la lb)) := by
  obtain ⟨i0, hi, hz0, hz1, hz2⟩ := info_parts infoSp
  have HG := Lib.hid hg
  have EG := Lib.hid eg
  clear hg eg
  by_cases hsa : isSet la = true
  · by_cases hsb : isSet lb = true
    · have HT : Hid (chosenOut f la lb = if 128 < (chosen f la lb).length then [] else chosen f la lb) := by simp [Hid, chosenOut, hsa, hsb]
      have HU : Hid (chosenErr f la lb = if 128 < (chosen f la lb).length then 8 else 0) := by simp [Hid, chosenErr, hsa, hsb]
      have hva := fun w' (h : Has S w' H) => set_calls S w' H h va la ha
      have hvb := fun w' (h : Has S w' H) => set_calls S w' H h vb lb hb
      rw [hsa] at hva
      rw [hsb] at hvb
      have HVA := Lib.hid hva
      have HVB := Lib.hid hvb
      have HSA := Lib.hid hsa
      have HSB := Lib.hid hsb
      have HA := Lib.hid ha
      have HB := Lib.hid hb
      obtain ⟨_, aa, ca, rfl, hca, _⟩ := ha
      obtain ⟨_, ab, cb, rfl, hcb, _⟩ := hb
      clear hva hvb hsa hsb
      have hw1 := hw.alloc (.cells #[.func (.func g) #[] #[]] 59)
      refine calls_marks Tryz.func31 rfl ?_
      simp only [Tryz.ntmps31, List.size_toArray, List.length_cons, List.length_nil, Nat.reduceAdd, Nat.reduceSub, Array.replicate_succ, Array.replicate_zero, List.push_toArray, List.append_toArray, List.nil_append, List.cons_append]
      go_wp2_with fail
      refine (HVA.out _ hw1.tail).mono ?_
      rintro e w2 ⟨rfl, hB2⟩
      have hw2 := hw1.below hB2
      go_wp2_with fail
      refine (HVB.out _ hw2.tail).mono ?_
      rintro e w3 ⟨rfl, hB3⟩
      have hw3 := hw2.below hB3
      go_wp2_with (go_at_call 52; refine (pieces_calls _ _ _ _ _ _ _).mono ?_; rintro e w' ⟨rfl, rfl⟩)
      have h4 := ((hw3.alloc (.cells #[.slice none 0 0] 22)).alloc (.cells #[.slice aa la.length ca] 22)).alloc (.cells #[.slice ab lb.length cb] 22)
      simp only [World.size_alloc] at h4
      obtain ⟨W0, hW0⟩ : ∃ W0, ((w3.alloc (.cells #[.slice none 0 0] 22)).alloc (.cells #[.slice aa la.length ca] 22)).alloc (.cells #[.slice ab lb.length cb] 22) = W0 := ⟨_, rfl⟩
      rw [hW0] at h4 ⊢
      clear hW0
      obtain ⟨Bo, hBo⟩ : ∃ Bo, w3.heap.size = Bo := ⟨_, rfl⟩
      obtain ⟨Br, hBr⟩ : ∃ Br, w.heap.size = Br := ⟨_, rfl⟩
      rw [hBo] at h4 ⊢
      rw [hBr] at h4 ⊢
      clear hBo hBr
      obtain ⟨H0, hH0⟩ : ∃ H0 : Hp, ((Bo + 1 + 1, .cells #[.slice ab lb.length cb] 22 (0, 0)) :: (Bo + 1, .cells #[.slice aa la.length ca] 22 (0, 0)) :: (Br, .cells #[.func (.func g) #[] #[]] 59 (0, 0)) :: H) = H0 := ⟨_, rfl⟩
      have hP : Has S W0 ((Bo, .cells #[.slice none 0 0] 22 (0, 0)) :: H0) := by
        rw [← hH0]
        exact h4.perm (List.perm_middle (l₁ := [_, _]))
      clear h4
      have hHB : ∀ p, p ∈ H0 → p.1 < W0.heap.size := fun p hp => hP.lt (b := p.1) (o := p.2) (List.mem_cons_of_mem _ hp)
      have hHo : ∀ p, p ∈ H0 → p.1 ≠ Bo := fun p hp e => by
        have hn := hP.nd
        simp only [List.map_cons, List.nodup_cons] at hn
        exact hn.1 (List.mem_map.2 ⟨p, hp, e⟩)
      have hmR : (Br, Obj.cells #[.func (.func g) #[] #[]] 59 (0, 0)) ∈ H0 := by rw [← hH0]; simp
      have hmA : (Bo + 1, Obj.cells #[.slice aa la.length ca] 22 (0, 0)) ∈ H0 := by rw [← hH0]; simp
      have hmB : (Bo + 1 + 1, Obj.cells #[.slice ab lb.length cb] 22 (0, 0)) ∈ H0 := by rw [← hH0]; simp
      have hmH : ∀ p, p ∈ H → p ∈ H0 := fun p hp => by rw [← hH0]; simp [hp]
      have hown0 : ownB Bo W0 = none := ownB_box (v := .slice none 0 0) (T := 22) hP List.mem_cons_self
      have hBoL : Bo < W0.heap.size := hP.lt List.mem_cons_self
      have hstops := pieces_stops S W0 H0 hP.tail W0.heap.size Bo (Bo + 1) (Bo + 1 + 1) 22 _ _ la lb HSA.out HSB.out hmA hmB (HA.out.mono hmH) (HB.out.mono hmH) (fun p hp => ⟨hHB p hp, hHo p hp⟩) hBoL hown0
      have hN : (pairsL la lb (edgesL la lb)).length ≤ 2 + 2 * la.length + 2 * lb.length := by
        have h1 := pairs_length la lb (edgesL la lb)
        have h2 := edgesL_length la lb
        omega
      have hla : la.length ≤ 128 := (set_sep HSA.out).2.1
      have hlb : lb.length ≤ 128 := (set_sep HSB.out).2.1
      have hsubH : H.Sublist H0 := by rw [← hH0]; exact ((List.Sublist.refl H).cons _).cons _ |>.cons _
      clear hH0
      refine wpIn_wide.1 (wpIn_rangeFunc_ownH (n := 4) (F := Fence.wide) rfl (by omega) (gf := 71) (lb := #[.pointer (some ⟨Bo + 1, 0, none⟩), .pointer (some ⟨Bo + 1 + 1, 0, none⟩)]) rfl trivial (enters_of Tryz.func71 (by kernel_rfl) rfl)
        hstops KeepB.t (fun W l o o' hl h1 h2 h3 => KeepB.b hBoL W l o o' hl h1 h2 h3) (Below.refl _ _) (fun _ => rfl)
        (fun pre W => ChI S H0 Bo f pre W) (fun _ _ _ => False) (chI_own hHB) (fun _ _ _ _ _ h _ _ => h)
        ⟨.slice none 0 0, [], SlR.nil _ _, hP⟩
        (fun x a' W => ∃ b9 b10 : Nat, W.heap[b9]? = some (.cells #[.int .i64 x.1.lo, .int .i64 x.1.hi] 41 (0, 0)) ∧ W.heap[b10]? = some (.cells #[.bool x.2.1, .bool x.2.2] 80 (0, 0)) ∧
          a' = { tmps := #[.slice aa la.length ca, .slice ab lb.length cb, .func (.func g) #[] #[], undef, undef, .pointer (some ⟨Br, 0, none⟩), .slice none 0 0, .int .i64 0, .pointer (some ⟨Bo, 0, none⟩), .pointer (some ⟨b9, 0, none⟩), .pointer (some ⟨b10, 0, none⟩),
            .slice aa la.length ca, .bool true, .bool false, .bool false, .slice ab lb.length cb, .bool true, .bool false, .bool false, .slice aa la.length ca, .slice ab lb.length cb,
            .func (.func 71) #[] #[.pointer (some ⟨Bo + 1, 0, none⟩), .pointer (some ⟨Bo + 1 + 1, 0, none⟩)], .agg #[.int .i64 x.1.lo, .int .i64 x.1.hi], .agg #[.bool x.2.1, .bool x.2.2],
            undef, undef, undef, undef, undef, undef, undef, undef, undef, undef, undef, undef, undef, undef, undef, undef], defers := [] })
        ?hax ?assign ?body ?done ?stop)
      case hax =>
        rintro x a' _ W W' row ⟨b9, b10, h9, h10, ha⟩ hg hr
        refine ⟨b9, b10, (hg.block b9 (Array.getElem?_eq_some_iff.1 h9).1 fun e => ?_).trans h9, (hg.block b10 (Array.getElem?_eq_some_iff.1 h10).1 fun e => ?_).trans h10, ha⟩
        · obtain ⟨_, o, h2, h3⟩ := hr _ e.symm
          rw [h9] at h2; cases h2; cases h3
        · obtain ⟨_, o, h2, h3⟩ := hr _ e.symm
          rw [h10] at h2; cases h2; cases h3
      case assign =>
        rintro l pre x W K ⟨v, Hs, hv, hwI⟩ hK
        have hwR := hwI.left.rest
        dsimp only [encP]
        gi_wp2
        obtain ⟨k1, k2⟩ := keepB_of (E := 41) W0.heap.size hv hv hwI.left.self ((hwR.more (.cells #[.int .i64 x.1.lo, .int .i64 x.1.hi] 41)).more (.cells #[.bool x.2.1, .bool x.2.2] 80)) id
        refine hK _ _ k2 k1 ⟨v, Hs, hv, (hwI.more _).more _⟩ ⟨W.heap.size, W.heap.size + 1, ?_, ?_, rfl⟩
        · rw [Below.heap_alloc _ _ _ (by simp)]; exact heap_alloc_new W _
        · have := heap_alloc_new (W.alloc (.cells #[.int .i64 x.1.lo, .int .i64 x.1.hi] 41)) (.cells #[.bool x.2.1, .bool x.2.2] 80)
          rwa [World.size_alloc] at this
      case body =>
        rintro l pre x a' W hl _ ⟨v, Hs, hv, hwI⟩ ⟨b9, b10, h9, h10, rfl⟩ hlt
        have hsl := sel_length f pre
        have hwR := hwI.left.rest
        have hwK := hwI.left.self
        have c5 := hwI.cell (o := 0) (v := .func (.func g) #[] #[]) (List.mem_append_right _ hmR) rfl
        have c90 : W.cell? ⟨b9, 0, none⟩ = some (.int .i64 x.1.lo) := by rw [cell_of_row W b9 _ _ _ _ h9]; rfl
        have c91 : W.cell? ⟨b9, 1, none⟩ = some (.int .i64 x.1.hi) := by rw [cell_of_row W b9 _ _ _ _ h9]; rfl
        have c100 : W.cell? ⟨b10, 0, none⟩ = some (.bool x.2.1) := by rw [cell_of_row W b10 _ _ _ _ h10]; rfl
        have c101 : W.cell? ⟨b10, 1, none⟩ = some (.bool x.2.2) := by rw [cell_of_row W b10 _ _ _ _ h10]; rfl
        have heg := EG.out
        cases hfx : f x.2.1 x.2.2 with
        | false =>
          have HF := Lib.hid hfx
          clear hfx
          gi_wp2_with fail
          refine ⟨trivial, (CallsIn.inRound l (callsIn_wide.2 (HG.out _ _ _))).mono ?_⟩
          rintro e w1 ⟨rfl, hB1⟩
          rw [HF.out]
          have hwR1 := hwR.below hB1
          obtain ⟨k1, k2⟩ := keepB_of (E := 41) W0.heap.size hv hv hwK hwR1 id
          have hI1 : ChI S H0 Bo f (pre ++ [x]) w1 := ⟨v, Hs, by rw [sel_snoc, HF.out]; simpa using hv, hwI.of_rest hwR1⟩
          have HI1 := Lib.hid hI1
          clear hI1 hv hwI
          gi_wp2
          exact ⟨k2, k1, HI1.out⟩
        | true =>
          have HF := Lib.hid hfx
          clear hfx
          gi_wp2_with fail
          refine ⟨trivial, (CallsIn.inRound l (callsIn_wide.2 (HG.out _ _ _))).mono ?_⟩
          rintro e w1 ⟨rfl, hB1⟩
          rw [HF.out]
          have hwR1 := hwR.below hB1
          have hwI1 := hwI.below hB1
          have c8 := hwI1.cell (o := 0) (v := v) (List.mem_append_left _ (List.mem_append_right _ List.mem_cons_self)) rfl
          have d90 := keep1 c90 hB1
          have d91 := keep1 c91 hB1
          clear c90 c91 c100 c101 c5 heg
          rw [List.append_assoc] at hwR1
          obtain ⟨ao, cap, rfl⟩ := sl_form hv
          gi_wp2_with (gi_at_builtin; refine wpListIn_append_lit (S := W) rfl _ _ 22 rfl Tryz.underlying22 hi hz0 hz1 hz2 rfl (by decide) rfl rfl (by simp) hv hwR1 rfl rfl (by unfold maxLen; omega) (by omega) ?_; intro v' w7 Hs' hv' hw7 hnil; obtain ⟨ao', cap', rfl⟩ := sl_form hv'; have hc7 := hw7.cell (b := Bo) (o := 0) (List.mem_append_right _ List.mem_cons_self) rfl; have hf7 := hw7.frozen (b := Bo) (List.mem_append_right _ List.mem_cons_self) 0; have HV7 := Lib.hid hv'; have HN7 := Lib.hid hnil; have HW7 := Lib.hid (hw7.setBox (.slice ao' ((sel f pre).length + 1) cap')); clear hv' hnil hw7)
          have hW8 : Has W (w7.setCell ⟨Bo, 0, none⟩ (.slice ao' ((sel f pre).length + 1) cap')) ((Hs' ++ [(Bo, .cells #[.slice ao' ((sel f pre).length + 1) cap'] 22 (0, 0))]) ++ HL.Rest W (Hs ++ [(Bo, .cells #[.slice ao (sel f pre).length cap] 22 (0, 0))])) := by
            rw [List.append_assoc]
            exact HW7.out
          obtain ⟨k1, k2⟩ := keepB_of (E := 41) W0.heap.size hv HV7.out hwK hW8 (fun e => ((HN7.out).1 e).1)
          refine ⟨k2, k1, _, Hs', ?_, hwI.of_rest hW8⟩
          have h1 : sel f (pre ++ [x]) = sel f pre ++ [x.1] := by rw [sel_snoc, HF.out]; rfl
          rw [h1, List.length_append, spc_append]
          exact HV7.out
      case done =>
        rintro D xs W hD rfl ⟨v, Hs, hv, hwI⟩ hK
        rw [sel_pairs] at hv
        have hsp : Hid (joinL (spansL (fun u => f (inB la u) (inB lb u)) (edgesL la lb)) = chosen f la lb) := rfl
        have hle : (spansL (fun u => f (inB la u) (inB lb u)) (edgesL la lb)).length ≤ 600 := by
          have h1 := sel_length f (pairsL la lb (edgesL la lb))
          rw [sel_pairs] at h1
          omega
        generalize spansL (fun u => f (inB la u) (inB lb u)) (edgesL la lb) = ps at *
        obtain ⟨ao, cap, rfl⟩ := sl_form hv
        have hDn : ∀ p, p ∈ (Hs ++ [(Bo, Obj.cells #[.slice ao ps.length cap] 22 (0, 0))]) ++ H0 → p.1 ≠ D := fun p hp e => by
          have h1 := hwI.get p hp
          rw [e, hK] at h1
          rcases List.mem_append.1 hp with hp | hp
          · rcases List.mem_append.1 hp with hp | hp
            · rcases hv.own with ⟨_, rfl, _⟩ | ⟨b, o, rfl, hc, _⟩
              · simp at hp
              · simp at hp; subst hp; cases h1; cases hc
            · simp at hp; subst hp; cases h1
          · have := hHB p hp; omega
        have hwD := hwI.also hK hDn
        have c8 := hwI.cell (o := 0) (v := .slice ao ps.length cap) (List.mem_append_left _ (List.mem_append_right _ List.mem_cons_self)) rfl
        have hmem : ∀ p, p ∈ Hs → p ∈ (D, Obj.deferred (some [])) :: ((Hs ++ [(Bo, Obj.cells #[.slice ao ps.length cap] 22 (0, 0))]) ++ H0) := fun p hp => List.mem_cons_of_mem _ (List.mem_append_left _ (List.mem_append_left _ hp))
        go_wp2_with fail
        refine (joined_calls S _ _ hwD _ ps (hv.read hmem) (by omega)).mono ?_
        rintro e w9 ⟨v9, Hs9, rfl, hv9, hw9⟩
        rw [hsp.out] at hv9
        generalize chosen f la lb = out at *
        have hw9' : Has S w9 (((D, Obj.deferred (some [])) :: (Hs9 ++ Hs)) ++ ((Bo, Obj.cells #[.slice ao ps.length cap] 22 (0, 0)) :: H0)) := by
          refine hw9.perm ?_
          refine List.perm_middle.trans ?_
          simp [List.append_assoc]
        have f8 := hw9'.frozen (b := Bo) (List.mem_append_right _ List.mem_cons_self) 0
        have e8 := hw9'.cell (b := Bo) (o := 0) (List.mem_append_right _ List.mem_cons_self) rfl
        have hw10 := hw9'.setBox v9
        obtain ⟨ao9, cap9, rfl⟩ := sl_form hv9
        have HW := Lib.hid hw10
        have HV := Lib.hid hv9
        clear hw10 hv9 hw9 hw9' hv c8 hwD hwI hDn hmem
        have hKD := HW.out.get (D, .deferred (some [])) (by simp)
        have hdrop : ∀ w', Has S w' ((Hs9 ++ Hs) ++ ((Bo, .cells #[.slice ao9 out.length cap9] 22 (0, 0)) :: H0)) → Has S w' (Hs9 ++ H) := fun w' h => h.sub (by
          rw [List.append_assoc]
          exact List.Sublist.append_left ((hsubH.cons _).trans (List.sublist_append_right _ _)) _)
        have HKD := Lib.hid hKD
        have HDR := Lib.hid hdrop
        clear hKD hdrop
        by_cases hbig : 128 < out.length
        · have HO : Hid (chosenOut f la lb = [] ∧ chosenErr f la lb = 8) := by
            unfold Hid
            rw [HT.out, HU.out, if_pos hbig, if_pos hbig]
            exact ⟨rfl, rfl⟩
          go_wp2
          refine ⟨by simp, .inl ⟨_, _, rfl, run_takeDeferred HKD.out, ?_⟩⟩
          refine ⟨.tuple #[.slice none 0 0, .int .i64 8], by simp [results, Tryz.results31, go_sem], ?_⟩
          rw [HO.out.1, HO.out.2]
          exact MadeE.fail ((HDR.out _ (HW.out.putObj _)).right)
        · have HO : Hid (chosenOut f la lb = out ∧ chosenErr f la lb = 0) := by
            unfold Hid
            rw [HT.out, HU.out, if_neg hbig, if_neg hbig]
            exact ⟨rfl, rfl⟩
          go_wp2
          refine ⟨by simp, .inl ⟨_, _, rfl, run_takeDeferred HKD.out, ?_⟩⟩
          refine ⟨.tuple #[.slice ao9 out.length cap9, .int .i64 0], by simp [results, Tryz.results31, go_sem], ?_⟩
          rw [HO.out.1, HO.out.2]
          exact ⟨_, Hs9, rfl, HV.out, HDR.out _ (HW.out.putObj _)⟩
      case stop =>
        rintro D c pre W _ _ h _
        exact h.elim
    · have hsb : isSet lb = false := by simpa using hsb
      have HT : Hid (chosenOut f la lb = [] ∧ chosenErr f la lb = 2) := by simp [Hid, chosenOut, chosenErr, hsb]
      have hva := fun w' (h : Has S w' H) => set_calls S w' H h va la ha
      have hvb := fun w' (h : Has S w' H) => set_calls S w' H h vb lb hb
      rw [hsa] at hva
      rw [hsb] at hvb
      have HVA := Lib.hid hva
      have HVB := Lib.hid hvb
      obtain ⟨_, aa, ca, rfl, hca, _⟩ := ha
      obtain ⟨_, ab, cb, rfl, hcb, _⟩ := hb
      clear hva hvb hsa hsb
      have hw1 := hw.alloc (.cells #[.func (.func g) #[] #[]] 59)
      refine calls_marks Tryz.func31 rfl ?_
      simp only [Tryz.ntmps31, List.size_toArray, List.length_cons, List.length_nil, Nat.reduceAdd, Nat.reduceSub, Array.replicate_succ, Array.replicate_zero, List.push_toArray, List.append_toArray, List.nil_append, List.cons_append]
      go_wp2_with fail
      refine (HVA.out _ hw1.tail).mono ?_
      rintro e w2 ⟨rfl, hB2⟩
      have hw2 := hw1.below hB2
      go_wp2_with fail
      refine (HVB.out _ hw2.tail).mono ?_
      rintro e w3 ⟨rfl, hB3⟩
      have hw3 := hw2.below hB3
      go_wp2
      refine ⟨.tuple #[.slice none 0 0, .int .i64 2], by simp [results, Tryz.results31, go_sem], ?_⟩
      rw [HT.out.1, HT.out.2]
      exact MadeE.fail hw3.tail
  · have hsa : isSet la = false := by simpa using hsa
    have HT : Hid (chosenOut f la lb = [] ∧ chosenErr f la lb = 2) := by simp [Hid, chosenOut, chosenErr, hsa]
    have hva := fun w' (h : Has S w' H) => set_calls S w' H h va la ha
    rw [hsa] at hva
    have HVA := Lib.hid hva
    obtain ⟨_, aa, ca, rfl, hca, _⟩ := ha
    obtain ⟨_, ab, cb, rfl, hcb, _⟩ := hb
    clear hva hsa
    have hw1 := hw.alloc (.cells #[.func (.func g) #[] #[]] 59)
    refine calls_marks Tryz.func31 rfl ?_
    simp only [Tryz.ntmps31, List.size_toArray, List.length_cons, List.length_nil, Nat.reduceAdd, Nat.reduceSub, Array.replicate_succ, Array.replicate_zero, List.push_toArray, List.append_toArray, List.nil_append, List.cons_append]
    go_wp2_with fail
    refine (HVA.out _ hw1.tail).mono ?_
    rintro e w2 ⟨rfl, hB2⟩
    have hw2 := hw1.below hB2
    go_wp2
    refine ⟨.tuple #[.slice none 0 0, .int .i64 2], by simp [results, Tryz.results31, go_sem], ?_⟩
    rw [HT.out.1, HT.out.2]
    exact MadeE.fail hw2.tail

end Go.Proofs.YtifeapnhemolgaaGreatDoor.Wk
