/- The pieces of two sets: what the iterator hands to a loop's body. -/
import Derived.Test.YtifeapnhemolgaaGreatDoorWn
import Derived.Test.YtifeapnhemolgaaGreatDoorHi
import Derived.Test.YtifeapnhemolgaaGreatDoorPf
namespace Go.Proofs.YtifeapnhemolgaaGreatDoor.Wk
open Go Go.RowKit Go.Proofs.YtifeapnhemolgaaGreatDoor.HL Go.Proofs.YtifeapnhemolgaaGreatDoor.Pl

/-- What a round is handed. -/
def encP (x : Sp × Bool × Bool) : Array Value := #[.agg #[.int .i64 x.1.lo, .int .i64 x.1.hi], .agg #[.bool x.2.1, .bool x.2.2]]

theorem inc_append (l m : List Int) : inc (l ++ m) = inc l ++ inc m := by simp [inc]

theorem endsL_snoc (l : List Sp) (k : Nat) (h : k < l.length) : endsL (l.take (k + 1)) = endsL (l.take k) ++ [l[k].lo, l[k].hi] := by
  rw [List.take_succ_eq_append_getElem h]
  simp only [endsL, List.flatMap_append, List.flatMap_cons, List.flatMap_nil, List.append_nil]

theorem idx0 (x y : Value) (w : World) : (Instr.index 97 (.agg #[x, y]) (.int .i64 0)).run Tryz.prog w = .ok x w := by
  have z := Tryz.sizeOf22
  have a := Tryz.isAgg22
  simp [Instr.index, run_underlying Tryz.underlying97, asIntOf, go_sem, z, a, part]

theorem idx1 (x y : Value) (w : World) : (Instr.index 97 (.agg #[x, y]) (.int .i64 1)).run Tryz.prog w = .ok y w := by
  have z := Tryz.sizeOf22
  have a := Tryz.isAgg22
  simp [Instr.index, run_underlying Tryz.underlying97, asIntOf, go_sem, z, a, part]

/-- The ends that lie there when k of the two lists are through. -/
def cutsK (la lb : List Sp) : Nat → List Int
  | 0 => [-1099511627776, 1099511627776]
  | 1 => [-1099511627776, 1099511627776] ++ endsL la
  | _ => [-1099511627776, 1099511627776] ++ endsL la ++ endsL lb

/-- The variable's value v is a slice of its own that holds the numbers out. -/
def GrowI (S : World) (H : Hp) (out : List Int) (v : Value) (w : World) : Prop := ∃ Hs, SlR 3 1 v out.length (inc out) Hs ∧ Has S w (Hs ++ H)

theorem cutsK_len (la lb : List Sp) (k : Nat) : (cutsK la lb k).length ≤ 2 + 2 * la.length + 2 * lb.length := by
  unfold cutsK
  split <;> simp [endsL_length] <;> omega

/-- Between two rounds: what has come; the iterator's own cells and what it reads lie as they lay. -/
def Bet (W : World) (J : List (Sp × Bool × Bool) → World → Prop) (B Bo : Nat) (Hc : Hp) (pre : List (Sp × Bool × Bool)) (w : World) : Prop :=
  J pre w ∧ Has W w Hc ∧ OwnLt Bo w ∧ Bo < w.heap.size ∧ ∀ p, p ∈ Hc → (p.1 < B ∨ p.2.isCells = true) ∧ p.1 ≠ Bo ∧ some p.1 ≠ ownB Bo w

theorem bet_start {W w3 : World} {J : List (Sp × Bool × Bool) → World → Prop} {B Bo : Nat} {Hc H : Hp} (hw : Has W W H) (hsub : ∀ p, p ∈ H → p ∈ Hall W) (hbel : Below W.heap.size W w3) (hw3 : Has W w3 (Hc ++ Hall W))
    (hfr : ∀ p, p ∈ Hc → p.2.isCells = true ∧ W.heap.size ≤ p.1) (hHH : ∀ p, p ∈ H → p.1 < B ∧ p.1 ≠ Bo) (hBl : Bo < W.heap.size) (hBo : ownB Bo W = none) (hJ : AbidesFrom W.heap.size J) (h0 : J [] W) : Bet W J B Bo (Hc ++ H) [] w3 := by
  have ho := ownB_below hbel hBl
  rw [hBo] at ho
  refine ⟨hJ [] W w3 none h0 (grown_of_below hbel) (fun r e => by cases e), ?_, fun g hg => (by rw [ho] at hg; cases hg), by have := hbel.size; omega, fun p hp => ?_⟩
  · refine ⟨hw3.os, hw3.tape, hw3.out, hw3.size, ?_, fun p hp => ?_⟩
    · rw [List.map_append, List.nodup_append]
      refine ⟨(hw3.left).nd, hw.nd, fun x hx y hy e => ?_⟩
      obtain ⟨p, hp, rfl⟩ := List.mem_map.1 hx
      obtain ⟨q, hq, rfl⟩ := List.mem_map.1 hy
      have := (hfr p hp).2
      have := hw.lt (b := q.1) (o := q.2) hq
      omega
    · rcases List.mem_append.1 hp with hp | hp
      · exact hw3.left.get p hp
      · exact hw3.right.get p (hsub p hp)
  · rw [ho]
    refine ⟨?_, ?_, by simp⟩
    · rcases List.mem_append.1 hp with hp | hp
      · exact .inr (hfr p hp).1
      · exact .inl (hHH p hp).1
    · rcases List.mem_append.1 hp with hp | hp
      · have := (hfr p hp).2; omega
      · exact (hHH p hp).2

theorem Bet.drew {W w : World} {J : List (Sp × Bool × Bool) → World → Prop} {B Bo : Nat} {Hc : Hp} {pre : List (Sp × Bool × Bool)} (h : Bet W J B Bo Hc pre w) (hJ : AbidesFrom W.heap.size J) : Bet W J B Bo Hc pre w.drew :=
  ⟨hJ _ _ _ none h.1 ⟨rfl, rfl, rfl, Nat.le_refl _, fun _ _ _ => rfl⟩ (fun r e => (by cases e)), h.2.1.drew, h.2.2.1, h.2.2.2.1, h.2.2.2.2⟩

theorem Bet.alloc {W w : World} {J : List (Sp × Bool × Bool) → World → Prop} {B Bo : Nat} {Hc : Hp} {pre : List (Sp × Bool × Bool)} (h : Bet W J B Bo Hc pre w) (hJ : AbidesFrom W.heap.size J) (c : Array Value) (T : TypeId) :
    Bet W J B Bo ((w.heap.size, .cells c T (0, 0)) :: Hc) pre (w.alloc (.cells c T)) := by
  obtain ⟨h1, h2, h3, h4, h5⟩ := h
  have hbel : Below w.heap.size w (w.alloc (.cells c T)) := (Below.refl _ _).alloc (Nat.le_refl _) _
  have ho := ownB_below hbel h4
  refine ⟨hJ _ _ _ none h1 (grown_of_below hbel) (fun r e => (by cases e)), h2.alloc _, h3.below hbel h4, by simp; omega, fun p hp => ?_⟩
  rw [ho]
  rcases List.mem_cons.1 hp with rfl | hp
  · exact ⟨.inr rfl, by simp; omega, fun e => by have := h3 _ e.symm; simp at this⟩
  · exact h5 p hp

theorem Bet.round {W w w' : World} {J : List (Sp × Bool × Bool) → World → Prop} {B Bo : Nat} {Hc : Hp} {pre pre' : List (Sp × Bool × Bool)} (h : Bet W J B Bo Hc pre w) (hJ : J pre' w') (hk : KeepB B Bo w w') : Bet W J B Bo Hc pre' w' := by
  obtain ⟨h1, h2, h3, h4, h5⟩ := h
  obtain ⟨k1, k2⟩ := hk.has h2 h5
  exact ⟨hJ, k1, hk.lt h3, Nat.lt_of_lt_of_le h4 hk.size, fun p hp => ⟨(h5 p hp).1, (h5 p hp).2.1, k2 p hp⟩⟩

theorem Bet.tail {W w : World} {J : List (Sp × Bool × Bool) → World → Prop} {B Bo : Nat} {Hc : Hp} {p : Nat × Obj} {pre : List (Sp × Bool × Bool)} (h : Bet W J B Bo (p :: Hc) pre w) : Bet W J B Bo Hc pre w :=
  ⟨h.1, h.2.1.tail, h.2.2.1, h.2.2.2.1, fun q hq => h.2.2.2.2 q (List.mem_cons_of_mem _ hq)⟩

/-- What the edges are like. -/
def Edge (la lb : List Sp) (e : List Int) (prs : List (Sp × Bool × Bool)) : Prop := asc e ∧ prs.length = e.length - 1 ∧ ∀ k u v, e[k]? = some u → e[k + 1]? = some v → prs[k]? = some (⟨u, v⟩, inB la u, inB lb u)

theorem edge_of (la lb : List Sp) : Edge la lb (edgesL la lb) (pairsL la lb (edgesL la lb)) := ⟨(edgesL_ends la lb).1, pairs_length _ _ _, fun k u v => pairs_at la lb _ k u v⟩

set_option maxHeartbeats 3200000 in
set_option maxRecDepth 100000 in
theorem pieces1_calls (l ba bb : Nat) (Ta : TypeId) (va vb : Value) (la lb : List Sp) (hsa : isSet la = true) (hsb : isSet lb = true) (B Bo : Nat) (J Jx : List (Sp × Bool × Bool) → World → Prop)
    (W : World) (H : Hp) (hw : Has W W H) (hma : (ba, Obj.cells #[va] Ta (0, 0)) ∈ H) (hmb : (bb, Obj.cells #[vb] Ta (0, 0)) ∈ H) (ha : SlIn H 2 va la.length (spc la)) (hb : SlIn H 2 vb lb.length (spc lb))
    (hH : ∀ p, p ∈ H → p.1 < B ∧ p.1 ≠ Bo) (hBl : Bo < W.heap.size) (hBo : ownB Bo W = none) (hJ : AbidesFrom W.heap.size J)
    (hY : ∀ pre x W1, J pre W1 → pre.length < (pairsL la lb (edgesL la lb)).length → YieldAt Fence.wide 2 Tryz.prog l (encP x) W1 fun e W' =>
      (e = .returned (.bool true) ∧ J (pre ++ [x]) W' ∧ KeepB B Bo W1 W') ∨ (e = .returned (.bool false) ∧ Jx (pre ++ [x]) W'))
    (h0 : J [] W) :
    Calls Tryz.prog 71 #[.func (.yield l) #[] #[], .pointer (some ⟨ba, 0, none⟩), .pointer (some ⟨bb, 0, none⟩)] W fun e W' => (∃ v, e = .returned v) ∧
      ((∃ xs, xs = pairsL la lb (edgesL la lb) ∧ J xs W') ∨ (∃ pre, Jx pre W')) := by
  obtain ⟨i0, hi, hz0, hz1, hz2⟩ := info_parts infoInt
  obtain ⟨hsepa, hla, _, _⟩ := set_sep hsa
  obtain ⟨hsepb, hlb, _, _⟩ := set_sep hsb
  have HA := Lib.hid ha
  have HB := Lib.hid hb
  obtain ⟨_, aa, ca, rfl, hca, hra⟩ := ha
  obtain ⟨_, ab, cb, rfl, hcb, hrb⟩ := hb
  have ca0 : W.cell? ⟨ba, 0, none⟩ = some (.slice aa la.length ca) := hw.cell hma rfl
  have cb0 : W.cell? ⟨bb, 0, none⟩ = some (.slice ab lb.length cb) := hw.cell hmb rfl
  have la0 := hw.lt hma
  have lb0 := hw.lt hmb
  have hall := Has.all W
  have hsub := hw.mem_all
  have HY := Lib.hid hY
  have HHH := Lib.hid hH
  have HBO := Lib.hid hBo
  have HJ := Lib.hid hJ
  clear hY hH hBo hJ
  have HE := Lib.hid (edge_of la lb)
  have hel := edgesL_length la lb
  have hfirst : SlR 3 1 (.slice (some ⟨W.heap.size, 0, none⟩) 2 2) 2 (inc [-1099511627776, 1099511627776]) [(W.heap.size, .cells #[.int .i64 (-1099511627776), .int .i64 1099511627776] 3 (0, 0))] :=
    SlR.made (c := #[.int .i64 (-1099511627776), .int .i64 1099511627776]) rfl (by unfold maxLen; omega)
  have hst := hall.alloc (.cells #[.int .i64 (-1099511627776), .int .i64 1099511627776] 3)
  have x0 := idx0 (.slice aa la.length ca) (.slice ab lb.length cb)
  have x1 := idx1 (.slice aa la.length ca) (.slice ab lb.length cb)
  go_enter Tryz.func71, Tryz.ntmps71
  go_wp2
  go_loopw [4, 18] (fun v i wr => ∃ k : Nat, k ≤ 2 ∧ i = .int .i64 k ∧ GrowI W (Hall W) (cutsK la lb k) v wr) (fun _ i _ => 2 - (intOf i).toNat)
  case atStart => exact ⟨0, by omega, rfl, _, hfirst, hst⟩
  case round =>
    obtain ⟨k, hk, rfl, hv⟩ := hrel
    by_cases hlt : k < 2
    · obtain rfl | rfl : k = 0 ∨ k = 1 := by omega
      · go_wp2
        go_loopw [4, 23] (fun v i wr => ∃ j : Nat, j ≤ la.length ∧ i = .int .i64 j ∧ GrowI W (Hall W) (cutsK la lb 0 ++ endsL (la.take j)) v wr) (fun _ i _ => la.length - (intOf i).toNat)
        case atStart => exact ⟨0, Nat.zero_le _, rfl, by simpa [endsL] using hv⟩
        case round =>
          clear hv
          obtain ⟨j, hj, rfl, Hs, hv, hw1⟩ := hrel
          by_cases hlt : j < la.length
          · obtain ⟨b', o', rfl, ra⟩ := hra (by omega)
            obtain ⟨a0, a1⟩ := sp_cells hw1 ((ra.mono hsub).mono fun p hp => List.mem_append_right _ hp) (List.getElem?_eq_getElem hlt)
            have hw2 := hw1.more (.cells #[.int .i64 la[j].lo, .int .i64 la[j].hi] 41)
            have hle : (cutsK la lb 0 ++ endsL (la.take j)).length ≤ 2 + 4 * la.length + 4 * lb.length := by
              have h1 := cutsK_len la lb 0
              have h2 := endsL_length (la.take j)
              have h3 : (la.take j).length ≤ la.length := List.length_take_le' _ _
              rw [List.length_append]; omega
            have hnext : Hid (cutsK la lb 0 ++ endsL (la.take (j + 1)) = (cutsK la lb 0 ++ endsL (la.take j)) ++ [la[j].lo, la[j].hi]) := by
              unfold Hid; rw [endsL_snoc _ _ hlt, List.append_assoc]
            generalize hq : cutsK la lb 0 ++ endsL (la.take j) = out at *
            have HQ := Lib.hid hq
            clear hq
            go_wp2_with (at_builtin; refine wpList_append_lit (S := W) rfl _ _ 42 rfl Tryz.underlying42 hi hz0 hz1 hz2 rfl (by decide) rfl rfl (by simp) hv hw2 rfl rfl (by unfold maxLen; omega) (by omega) ?_; intro v' w7 Hs' hv' hw7 _)
            go_roundw
            case rel =>
              have hG : GrowI W (Hall W) (out ++ [la[j].lo, la[j].hi]) v' w7 := ⟨Hs', by rw [inc_append, List.length_append]; exact hv', hw7⟩
              rw [← hnext.out] at hG
              exact ⟨v', _, _, ⟨j + 1, by omega, by go_num, hG⟩, rfl, rfl, rfl⟩
            case measure => simp [intOf]; omega
          · obtain rfl : j = la.length := by omega
            rw [List.take_length] at hv
            go_wp2
            go_roundw
            case rel => exact ⟨1, by omega, by go_num, Hs, hv, hw1⟩
            case measure => simp [intOf]
      · go_wp2
        go_loopw [4, 23] (fun v i wr => ∃ j : Nat, j ≤ lb.length ∧ i = .int .i64 j ∧ GrowI W (Hall W) (cutsK la lb 1 ++ endsL (lb.take j)) v wr) (fun _ i _ => lb.length - (intOf i).toNat)
        case atStart => exact ⟨0, Nat.zero_le _, rfl, by simpa [endsL] using hv⟩
        case round =>
          clear hv
          obtain ⟨j, hj, rfl, Hs, hv, hw1⟩ := hrel
          by_cases hlt : j < lb.length
          · obtain ⟨b', o', rfl, ra⟩ := hrb (by omega)
            obtain ⟨a0, a1⟩ := sp_cells hw1 ((ra.mono hsub).mono fun p hp => List.mem_append_right _ hp) (List.getElem?_eq_getElem hlt)
            have hw2 := hw1.more (.cells #[.int .i64 lb[j].lo, .int .i64 lb[j].hi] 41)
            have hle : (cutsK la lb 1 ++ endsL (lb.take j)).length ≤ 2 + 4 * la.length + 4 * lb.length := by
              have h1 := cutsK_len la lb 1
              have h2 := endsL_length (lb.take j)
              have h3 : (lb.take j).length ≤ lb.length := List.length_take_le' _ _
              rw [List.length_append]; omega
            have hnext : Hid (cutsK la lb 1 ++ endsL (lb.take (j + 1)) = (cutsK la lb 1 ++ endsL (lb.take j)) ++ [lb[j].lo, lb[j].hi]) := by
              unfold Hid; rw [endsL_snoc _ _ hlt, List.append_assoc]
            generalize hq : cutsK la lb 1 ++ endsL (lb.take j) = out at *
            have HQ := Lib.hid hq
            clear hq
            go_wp2_with (at_builtin; refine wpList_append_lit (S := W) rfl _ _ 42 rfl Tryz.underlying42 hi hz0 hz1 hz2 rfl (by decide) rfl rfl (by simp) hv hw2 rfl rfl (by unfold maxLen; omega) (by omega) ?_; intro v' w7 Hs' hv' hw7 _)
            go_roundw
            case rel =>
              have hG : GrowI W (Hall W) (out ++ [lb[j].lo, lb[j].hi]) v' w7 := ⟨Hs', by rw [inc_append, List.length_append]; exact hv', hw7⟩
              rw [← hnext.out] at hG
              exact ⟨v', _, _, ⟨j + 1, by omega, by go_num, hG⟩, rfl, rfl, rfl⟩
            case measure => simp [intOf]; omega
          · obtain rfl : j = lb.length := by omega
            rw [List.take_length] at hv
            go_wp2
            go_roundw
            case rel => exact ⟨2, by omega, by go_num, Hs, hv, hw1⟩
            case measure => simp [intOf]
    · obtain rfl : k = 2 := by omega
      have hlen := cutsK_len la lb 2
      have hpos : 0 < (cutsK la lb 2).length := by simp [cutsK]
      have hedge : Hid (Lib.compact ((cutsK la lb 2).mergeSort fun x y => decide (x ≤ y)) = edgesL la lb) := rfl
      generalize hq : cutsK la lb 2 = cuts at *
      have HQ := Lib.hid hq
      clear hq
      obtain ⟨Hs, hv, hw1⟩ := hv
      go_wp2_with fail
      refine (sort_calls W _ (Hall W) _ _ cuts Hs hv hw1 hpos (by omega)).mono ?_
      rintro e w2 ⟨rfl, Hs2, hv2, hw2⟩
      clear hv hw1
      go_wp2_with fail
      refine (compact_calls W _ (Hall W) _ _ _ Hs2 hv2 hw2 hpos (by omega)).mono ?_
      rintro e w3 ⟨v3, Hc, rfl, hv3, hw3⟩
      rw [hedge.out] at hv3
      have hfr := hv3.fresh hw3
      have hbel := hw3.below_of_all
      have hbet := bet_start hw hsub hbel hw3 hfr HHH.out hBl HBO.out HJ.out h0
      generalize hes : edgesL la lb = es at *
      generalize hprs : pairsL la lb es = prs at *
      have HES := Lib.hid hes
      have HPR := Lib.hid hprs
      clear hes hprs
      clear hw3 hv2 hw2 hbel
      have hE := HE.out
      have hce := hv3.read (H := Hc ++ H) (fun p hp => List.mem_append_left _ hp)
      clear hv3
      obtain ⟨_, ae, ce, rfl, hcae, hre⟩ := hce
      clear hst hfirst hall x0 x1
      go_wp2
      go_loopw [9, 10, 11] (fun i k n wr => ∃ m ia ib : Nat, n = .int .i64 m ∧ i = .int .i64 ia ∧ k = .int .i64 ib ∧ m ≤ es.length ∧ ia ≤ la.length ∧ ib ≤ lb.length ∧ Hid (∀ x, es[m]? = some x → passed la ia x ∧ passed lb ib x) ∧ Hid (Bet W J B Bo (Hc ++ H) (prs.take m) wr)) (fun _ _ n _ => es.length - (intOf n).toNat)
      case atStart => exact ⟨0, 0, 0, rfl, rfl, rfl, by omega, by omega, by omega, fun x _ => ⟨passed_zero _ _, passed_zero _ _⟩, hbet⟩
      case round =>
        obtain ⟨m, ia, ib, rfl, rfl, rfl, hm, hia, hib, hpas, HBet⟩ := hrel
        have hb1 := HBet.out.2.1
        have hmH : ∀ p, p ∈ H → p ∈ Hc ++ H := fun p hp => List.mem_append_right _ hp
        have ca1 : wr.cell? ⟨ba, 0, none⟩ = some (.slice aa la.length ca) := hb1.cell (hmH _ hma) rfl
        have cb1 : wr.cell? ⟨bb, 0, none⟩ = some (.slice ab lb.length cb) := hb1.cell (hmH _ hmb) rfl
        by_cases hlt : m + 1 < es.length
        · obtain ⟨be, oe, rfl, re⟩ := hre (by omega)
          have hm1 : m < es.length := Nat.lt_of_succ_lt hlt
          have g0 := int_cell hb1 re hm1
          obtain ⟨x, hx⟩ : ∃ x, es[m] = x := ⟨_, rfl⟩
          have hx2 : es[m]? = some x := by rw [← hx]; exact List.getElem?_eq_getElem hm1
          rw [hx] at g0
          have HX := Lib.hid hx2
          clear hx hx2
          have hpA : Hid (passed la ia x) := (hpas.out _ HX.out).1
          have hpB : Hid (passed lb ib x) := (hpas.out _ HX.out).2
          clear hpas
          have y0 := fun x : Cw (cls true (fun w' => Has W w' (Hc ++ H))) => (x.h rfl).cell (hmH _ hma) (o := 0) (v := .slice aa la.length ca) rfl
          have y1 := fun x : Cw (cls true (fun w' => Has W w' (Hc ++ H))) => (x.h rfl).cell (hmH _ hmb) (o := 0) (v := .slice ab lb.length cb) rfl
          go_wp2
          go_loop [9] (fun i => ∃ ia : Nat, i = .int .i64 ia ∧ ia ≤ la.length ∧ Hid (passed la ia x)) (fun i => la.length - (intOf i).toNat)
          case atStart => exact ⟨ia, rfl, hia, hpA⟩
          case round =>
            clear hpA
            obtain ⟨ia, rfl, hia, hpla⟩ := hrel
            by_cases hlla : ia < la.length
            · obtain ⟨lab, lao, rfl, lar⟩ := hra (by omega)
              obtain ⟨la0, la1⟩ := sp_cells hb1 (lar.mono hmH) (List.getElem?_eq_getElem hlla)
              by_cases hh : la[ia].hi ≤ x
              · have hn : Hid (passed la (ia + 1) x) := passed_succ hpla.out (List.getElem?_eq_getElem hlla) hh
                go_wp2
                go_round
                case rel => exact ⟨ia + 1, by go_num, by omega, hn⟩
                case measure => simp [intOf]; omega
              · have hinla : Hid (inB la x = decide (la[ia].lo ≤ x)) := inB_at hsepa hpla.out (List.getElem?_eq_getElem hlla) (by omega)
                go_wp2
                go_loop [10] (fun i => ∃ ib : Nat, i = .int .i64 ib ∧ ib ≤ lb.length ∧ Hid (passed lb ib x)) (fun i => lb.length - (intOf i).toNat)
                case atStart => exact ⟨ib, rfl, hib, hpB⟩
                case round =>
                  clear hpB
                  obtain ⟨ib, rfl, hib, hplb⟩ := hrel
                  by_cases hllb : ib < lb.length
                  · obtain ⟨lbb, lbo, rfl, lbr⟩ := hrb (by omega)
                    obtain ⟨lb0, lb1⟩ := sp_cells hb1 (lbr.mono hmH) (List.getElem?_eq_getElem hllb)
                    by_cases hh : lb[ib].hi ≤ x
                    · have hn : Hid (passed lb (ib + 1) x) := passed_succ hplb.out (List.getElem?_eq_getElem hllb) hh
                      go_wp2
                      go_round
                      case rel => exact ⟨ib + 1, by go_num, by omega, hn⟩
                      case measure => simp [intOf]; omega
                    · have hinlb : Hid (inB lb x = decide (lb[ib].lo ≤ x)) := inB_at hsepb hplb.out (List.getElem?_eq_getElem hllb) (by omega)
                      by_cases hloa : la[ia].lo ≤ x
                      · by_cases hlob : lb[ib].lo ≤ x
                        · have ya := fun x : Cw (cls true (fun w' => Has W w' (Hc ++ H))) => (sp_cells (x.h rfl) (lar.mono hmH) (List.getElem?_eq_getElem hlla)).1
                          have yb := fun x : Cw (cls true (fun w' => Has W w' (Hc ++ H))) => (sp_cells (x.h rfl) (lbr.mono hmH) (List.getElem?_eq_getElem hllb)).1
                          go_wp2
                          haveI hne := clsTrue (S := fun w' => Has W w' (Hc ++ H)) hb1
                          refine held_start (fun w' => Has W w' (Hc ++ H)) [28] (by kernel_rfl) ?_
                          refine held_seg true [true,true,true,true,true,true,true,true,true,true,true,true,true,true,true,true,true,true,true,true,true,true,true,true,true,true,true] 2 (by kernel_rfl) hb1.drew ?_
                          simp only [pickB]
                          repeat (go_big_quiet_step (fail))
                          refine wpQuiet_nil ?_
                          refine held_one 27 (by kernel_rfl) rfl rfl fun K hK => ?_
                          go_simp
                          refine hK _ _ (fun _ => (hb1.more _).drew) ?_
                          clear hK K
                          refine held_fin 28 (by kernel_rfl) rfl rfl (by simp) fun K hK => ?_
                          go_simp
                          refine hK _ _ (held_done (by kernel_rfl) ?_ _)
                          clear hK K hne y0 y1 ca1 cb1 ya yb
                          have hbet2 := (HBet.out.alloc HJ.out #[.bool true, .bool true] 80).drew HJ.out
                          have hb2 := hbet2.2.1
                          have c0 := hb2.cell (o := 0) List.mem_cons_self rfl
                          have c1 := hb2.cell (o := 1) List.mem_cons_self rfl
                          haveI hne := clsTrue (S := fun w' => Has W w' ((wr.heap.size, .cells #[.bool true, .bool true] 80 (0, 0)) :: (Hc ++ H))) hb2
                          have z0 := fun x : Cw (cls true (fun w' => Has W w' ((wr.heap.size, .cells #[.bool true, .bool true] 80 (0, 0)) :: (Hc ++ H)))) => (x.h rfl).cell (o := 0) List.mem_cons_self rfl
                          have z1 := fun x : Cw (cls true (fun w' => Has W w' ((wr.heap.size, .cells #[.bool true, .bool true] 80 (0, 0)) :: (Hc ++ H)))) => (x.h rfl).cell (o := 1) List.mem_cons_self rfl
                          have z2 := fun x : Cw (cls true (fun w' => Has W w' ((wr.heap.size, .cells #[.bool true, .bool true] 80 (0, 0)) :: (Hc ++ H)))) => int_cell (x.h rfl) (re.mono fun p hp => List.mem_cons_of_mem _ hp) hlt
                          go_wp2
                          refine heldI_start (fun w' => Has W w' ((wr.heap.size, .cells #[.bool true, .bool true] 80 (0, 0)) :: (Hc ++ H))) [9] (by kernel_rfl) ?_
                          refine heldI_seg true [true,true,true,true,true,true,true,true,true] 2 (by kernel_rfl) hb2.drew ?_
                          simp only [pickB]
                          repeat (go_big_quiet_step (fail))
                          refine wpQuiet_nil ?_
                          refine heldI_fin 9 (by kernel_rfl) rfl rfl (by simp) fun K hK => ?_
                          have hlen' : (prs.take m).length < prs.length := by rw [List.length_take, hE.2.1]; omega
                          obtain ⟨fn, tmps, assign, body, hy, hR⟩ := HY.out (prs.take m) (⟨x, es[m + 1]⟩, true, true) _ (hbet2.drew HJ.out).1 hlen'
                          dsimp only [encP] at hy
                          simp only [Oper.wpIn, Fence.wide_round, Oper.semAt_none]
                          refine ⟨fun _ _ => trivial, ?_⟩
                          clear z0 z1 z2 hne
                          have HR := Lib.hid hR
                          clear hR
                          go_simp
                          refine HR.out.mono ?_
                          clear hy HR
                          rintro e w4 (⟨rfl, hJ4, hk4⟩ | ⟨rfl, hJx4⟩)
                          · have hbet4 := ((hbet2.drew HJ.out).round hJ4 hk4).tail
                            have hbn : Hid (Bet W J B Bo (Hc ++ H) (prs.take (m + 1)) w4) := by
                              unfold Hid
                              rw [List.take_succ_eq_append_getElem (by rw [hE.2.1]; omega)]
                              have h5 := hE.2.2 m x es[m + 1] HX.out (List.getElem?_eq_getElem hlt)
                              rw [List.getElem?_eq_getElem (by rw [hE.2.1]; omega)] at h5
                              rw [Option.some.inj h5, hinla.out, hinlb.out, decide_eq_true hloa, decide_eq_true hlob]
                              exact hbet4
                            have hpn : Hid (∀ y, es[m + 1]? = some y → passed la ia y ∧ passed lb ib y) := fun y hy => by
                              have h6 := asc_next hE.1 HX.out hy
                              exact ⟨passed_mono hpla.out h6, passed_mono hplb.out h6⟩
                            refine hK _ _ ?_
                            clear hK K hJ4 hk4 hbet4
                            refine heldI_rest [false,false,false,false,false,false,false,false,false,false,true] 0 (by kernel_rfl) (by kernel_rfl) ?_
                            simp only [pickB]
                            repeat (go_big_quiet_step (fail))
                            refine wpQuiet_nil ?_
                            refine heldI_done (by kernel_rfl) ?_ _
                            go_wp2
                            go_roundw
                            case rel => exact ⟨m + 1, ia, ib, by go_num, rfl, rfl, by omega, hia, hib, hpn, hbn⟩
                            case measure => simp [intOf]; omega
                          · refine hK _ _ ?_
                            clear hK K
                            refine heldI_rest [false,false,false,false,false,false,false,false,false,false,true] 0 (by kernel_rfl) (by kernel_rfl) ?_
                            simp only [pickB]
                            repeat (go_big_quiet_step (fail))
                            refine wpQuiet_nil ?_
                            refine heldI_done (by kernel_rfl) ?_ _
                            go_wp2
                            refine bodyPost_ret (results_none rfl _ _ _) rfl ?_
                            exact ⟨⟨_, rfl⟩, .inr ⟨_, hJx4⟩⟩
                        · have ya := fun x : Cw (cls true (fun w' => Has W w' (Hc ++ H))) => (sp_cells (x.h rfl) (lar.mono hmH) (List.getElem?_eq_getElem hlla)).1
                          have yb := fun x : Cw (cls true (fun w' => Has W w' (Hc ++ H))) => (sp_cells (x.h rfl) (lbr.mono hmH) (List.getElem?_eq_getElem hllb)).1
                          have hdb : decide (lb[ib].lo ≤ x) = false := by simpa using hlob
                          go_wp2
                          haveI hne := clsTrue (S := fun w' => Has W w' (Hc ++ H)) hb1
                          refine held_start (fun w' => Has W w' (Hc ++ H)) [28] (by kernel_rfl) ?_
                          refine held_seg true [true,true,true,true,true,true,true,true,true,true,true,true,true,true,true,true,true,true,true,true,true,true,true,true,true,true,true] 2 (by kernel_rfl) hb1.drew ?_
                          simp only [pickB]
                          repeat (go_big_quiet_step (fail))
                          refine wpQuiet_nil ?_
                          refine held_one 27 (by kernel_rfl) rfl rfl fun K hK => ?_
                          go_simp
                          refine hK _ _ (fun _ => (hb1.more _).drew) ?_
                          clear hK K
                          refine held_fin 28 (by kernel_rfl) rfl rfl (by simp) fun K hK => ?_
                          go_simp
                          refine hK _ _ (held_done (by kernel_rfl) ?_ _)
                          clear hK K hne y0 y1 ca1 cb1 ya yb
                          have hbet2 := (HBet.out.alloc HJ.out #[.bool true, .bool false] 80).drew HJ.out
                          have hb2 := hbet2.2.1
                          have c0 := hb2.cell (o := 0) List.mem_cons_self rfl
                          have c1 := hb2.cell (o := 1) List.mem_cons_self rfl
                          haveI hne := clsTrue (S := fun w' => Has W w' ((wr.heap.size, .cells #[.bool true, .bool false] 80 (0, 0)) :: (Hc ++ H))) hb2
                          have z0 := fun x : Cw (cls true (fun w' => Has W w' ((wr.heap.size, .cells #[.bool true, .bool false] 80 (0, 0)) :: (Hc ++ H)))) => (x.h rfl).cell (o := 0) List.mem_cons_self rfl
                          have z1 := fun x : Cw (cls true (fun w' => Has W w' ((wr.heap.size, .cells #[.bool true, .bool false] 80 (0, 0)) :: (Hc ++ H)))) => (x.h rfl).cell (o := 1) List.mem_cons_self rfl
                          have z2 := fun x : Cw (cls true (fun w' => Has W w' ((wr.heap.size, .cells #[.bool true, .bool false] 80 (0, 0)) :: (Hc ++ H)))) => int_cell (x.h rfl) (re.mono fun p hp => List.mem_cons_of_mem _ hp) hlt
                          go_wp2
                          refine heldI_start (fun w' => Has W w' ((wr.heap.size, .cells #[.bool true, .bool false] 80 (0, 0)) :: (Hc ++ H))) [9] (by kernel_rfl) ?_
                          refine heldI_seg true [true,true,true,true,true,true,true,true,true] 2 (by kernel_rfl) hb2.drew ?_
                          simp only [pickB]
                          repeat (go_big_quiet_step (fail))
                          refine wpQuiet_nil ?_
                          refine heldI_fin 9 (by kernel_rfl) rfl rfl (by simp) fun K hK => ?_
                          have hlen' : (prs.take m).length < prs.length := by rw [List.length_take, hE.2.1]; omega
                          obtain ⟨fn, tmps, assign, body, hy, hR⟩ := HY.out (prs.take m) (⟨x, es[m + 1]⟩, true, false) _ (hbet2.drew HJ.out).1 hlen'
                          dsimp only [encP] at hy
                          simp only [Oper.wpIn, Fence.wide_round, Oper.semAt_none]
                          refine ⟨fun _ _ => trivial, ?_⟩
                          clear z0 z1 z2 hne
                          have HR := Lib.hid hR
                          clear hR
                          go_simp
                          refine HR.out.mono ?_
                          clear hy HR
                          rintro e w4 (⟨rfl, hJ4, hk4⟩ | ⟨rfl, hJx4⟩)
                          · have hbet4 := ((hbet2.drew HJ.out).round hJ4 hk4).tail
                            have hbn : Hid (Bet W J B Bo (Hc ++ H) (prs.take (m + 1)) w4) := by
                              unfold Hid
                              rw [List.take_succ_eq_append_getElem (by rw [hE.2.1]; omega)]
                              have h5 := hE.2.2 m x es[m + 1] HX.out (List.getElem?_eq_getElem hlt)
                              rw [List.getElem?_eq_getElem (by rw [hE.2.1]; omega)] at h5
                              rw [Option.some.inj h5, hinla.out, hinlb.out, decide_eq_true hloa, decide_eq_false (p := lb[ib].lo ≤ x) (by omega)]
                              exact hbet4
                            have hpn : Hid (∀ y, es[m + 1]? = some y → passed la ia y ∧ passed lb ib y) := fun y hy => by
                              have h6 := asc_next hE.1 HX.out hy
                              exact ⟨passed_mono hpla.out h6, passed_mono hplb.out h6⟩
                            refine hK _ _ ?_
                            clear hK K hJ4 hk4 hbet4
                            refine heldI_rest [false,false,false,false,false,false,false,false,false,false,true] 0 (by kernel_rfl) (by kernel_rfl) ?_
                            simp only [pickB]
                            repeat (go_big_quiet_step (fail))
                            refine wpQuiet_nil ?_
                            refine heldI_done (by kernel_rfl) ?_ _
                            go_wp2
                            go_roundw
                            case rel => exact ⟨m + 1, ia, ib, by go_num, rfl, rfl, by omega, hia, hib, hpn, hbn⟩
                            case measure => simp [intOf]; omega
                          · refine hK _ _ ?_
                            clear hK K
                            refine heldI_rest [false,false,false,false,false,false,false,false,false,false,true] 0 (by kernel_rfl) (by kernel_rfl) ?_
                            simp only [pickB]
                            repeat (go_big_quiet_step (fail))
                            refine wpQuiet_nil ?_
                            refine heldI_done (by kernel_rfl) ?_ _
                            go_wp2
                            refine bodyPost_ret (results_none rfl _ _ _) rfl ?_
                            exact ⟨⟨_, rfl⟩, .inr ⟨_, hJx4⟩⟩
                      · by_cases hlob : lb[ib].lo ≤ x
                        · have ya := fun x : Cw (cls true (fun w' => Has W w' (Hc ++ H))) => (sp_cells (x.h rfl) (lar.mono hmH) (List.getElem?_eq_getElem hlla)).1
                          have hda : decide (la[ia].lo ≤ x) = false := by simpa using hloa
                          have yb := fun x : Cw (cls true (fun w' => Has W w' (Hc ++ H))) => (sp_cells (x.h rfl) (lbr.mono hmH) (List.getElem?_eq_getElem hllb)).1
                          go_wp2
                          haveI hne := clsTrue (S := fun w' => Has W w' (Hc ++ H)) hb1
                          refine held_start (fun w' => Has W w' (Hc ++ H)) [28] (by kernel_rfl) ?_
                          refine held_seg true [true,true,true,true,true,true,true,true,true,true,true,true,true,true,true,true,true,true,true,true,true,true,true,true,true,true,true] 2 (by kernel_rfl) hb1.drew ?_
                          simp only [pickB]
                          repeat (go_big_quiet_step (fail))
                          refine wpQuiet_nil ?_
                          refine held_one 27 (by kernel_rfl) rfl rfl fun K hK => ?_
                          go_simp
                          refine hK _ _ (fun _ => (hb1.more _).drew) ?_
                          clear hK K
                          refine held_fin 28 (by kernel_rfl) rfl rfl (by simp) fun K hK => ?_
                          go_simp
                          refine hK _ _ (held_done (by kernel_rfl) ?_ _)
                          clear hK K hne y0 y1 ca1 cb1 ya yb
                          have hbet2 := (HBet.out.alloc HJ.out #[.bool false, .bool true] 80).drew HJ.out
                          have hb2 := hbet2.2.1
                          have c0 := hb2.cell (o := 0) List.mem_cons_self rfl
                          have c1 := hb2.cell (o := 1) List.mem_cons_self rfl
                          haveI hne := clsTrue (S := fun w' => Has W w' ((wr.heap.size, .cells #[.bool false, .bool true] 80 (0, 0)) :: (Hc ++ H))) hb2
                          have z0 := fun x : Cw (cls true (fun w' => Has W w' ((wr.heap.size, .cells #[.bool false, .bool true] 80 (0, 0)) :: (Hc ++ H)))) => (x.h rfl).cell (o := 0) List.mem_cons_self rfl
                          have z1 := fun x : Cw (cls true (fun w' => Has W w' ((wr.heap.size, .cells #[.bool false, .bool true] 80 (0, 0)) :: (Hc ++ H)))) => (x.h rfl).cell (o := 1) List.mem_cons_self rfl
                          have z2 := fun x : Cw (cls true (fun w' => Has W w' ((wr.heap.size, .cells #[.bool false, .bool true] 80 (0, 0)) :: (Hc ++ H)))) => int_cell (x.h rfl) (re.mono fun p hp => List.mem_cons_of_mem _ hp) hlt
                          go_wp2
                          refine heldI_start (fun w' => Has W w' ((wr.heap.size, .cells #[.bool false, .bool true] 80 (0, 0)) :: (Hc ++ H))) [9] (by kernel_rfl) ?_
                          refine heldI_seg true [true,true,true,true,true,true,true,true,true] 2 (by kernel_rfl) hb2.drew ?_
                          simp only [pickB]
                          repeat (go_big_quiet_step (fail))
                          refine wpQuiet_nil ?_
                          refine heldI_fin 9 (by kernel_rfl) rfl rfl (by simp) fun K hK => ?_
                          have hlen' : (prs.take m).length < prs.length := by rw [List.length_take, hE.2.1]; omega
                          obtain ⟨fn, tmps, assign, body, hy, hR⟩ := HY.out (prs.take m) (⟨x, es[m + 1]⟩, false, true) _ (hbet2.drew HJ.out).1 hlen'
                          dsimp only [encP] at hy
                          simp only [Oper.wpIn, Fence.wide_round, Oper.semAt_none]
                          refine ⟨fun _ _ => trivial, ?_⟩
                          clear z0 z1 z2 hne
                          have HR := Lib.hid hR
                          clear hR
                          go_simp
                          refine HR.out.mono ?_
                          clear hy HR
                          rintro e w4 (⟨rfl, hJ4, hk4⟩ | ⟨rfl, hJx4⟩)
                          · have hbet4 := ((hbet2.drew HJ.out).round hJ4 hk4).tail
                            have hbn : Hid (Bet W J B Bo (Hc ++ H) (prs.take (m + 1)) w4) := by
                              unfold Hid
                              rw [List.take_succ_eq_append_getElem (by rw [hE.2.1]; omega)]
                              have h5 := hE.2.2 m x es[m + 1] HX.out (List.getElem?_eq_getElem hlt)
                              rw [List.getElem?_eq_getElem (by rw [hE.2.1]; omega)] at h5
                              rw [Option.some.inj h5, hinla.out, hinlb.out, decide_eq_false (p := la[ia].lo ≤ x) (by omega), decide_eq_true hlob]
                              exact hbet4
                            have hpn : Hid (∀ y, es[m + 1]? = some y → passed la ia y ∧ passed lb ib y) := fun y hy => by
                              have h6 := asc_next hE.1 HX.out hy
                              exact ⟨passed_mono hpla.out h6, passed_mono hplb.out h6⟩
                            refine hK _ _ ?_
                            clear hK K hJ4 hk4 hbet4
                            refine heldI_rest [false,false,false,false,false,false,false,false,false,false,true] 0 (by kernel_rfl) (by kernel_rfl) ?_
                            simp only [pickB]
                            repeat (go_big_quiet_step (fail))
                            refine wpQuiet_nil ?_
                            refine heldI_done (by kernel_rfl) ?_ _
                            go_wp2
                            go_roundw
                            case rel => exact ⟨m + 1, ia, ib, by go_num, rfl, rfl, by omega, hia, hib, hpn, hbn⟩
                            case measure => simp [intOf]; omega
                          · refine hK _ _ ?_
                            clear hK K
                            refine heldI_rest [false,false,false,false,false,false,false,false,false,false,true] 0 (by kernel_rfl) (by kernel_rfl) ?_
                            simp only [pickB]
                            repeat (go_big_quiet_step (fail))
                            refine wpQuiet_nil ?_
                            refine heldI_done (by kernel_rfl) ?_ _
                            go_wp2
                            refine bodyPost_ret (results_none rfl _ _ _) rfl ?_
                            exact ⟨⟨_, rfl⟩, .inr ⟨_, hJx4⟩⟩
                        · have ya := fun x : Cw (cls true (fun w' => Has W w' (Hc ++ H))) => (sp_cells (x.h rfl) (lar.mono hmH) (List.getElem?_eq_getElem hlla)).1
                          have hda : decide (la[ia].lo ≤ x) = false := by simpa using hloa
                          have yb := fun x : Cw (cls true (fun w' => Has W w' (Hc ++ H))) => (sp_cells (x.h rfl) (lbr.mono hmH) (List.getElem?_eq_getElem hllb)).1
                          have hdb : decide (lb[ib].lo ≤ x) = false := by simpa using hlob
                          go_wp2
                          haveI hne := clsTrue (S := fun w' => Has W w' (Hc ++ H)) hb1
                          refine held_start (fun w' => Has W w' (Hc ++ H)) [28] (by kernel_rfl) ?_
                          refine held_seg true [true,true,true,true,true,true,true,true,true,true,true,true,true,true,true,true,true,true,true,true,true,true,true,true,true,true,true] 2 (by kernel_rfl) hb1.drew ?_
                          simp only [pickB]
                          repeat (go_big_quiet_step (fail))
                          refine wpQuiet_nil ?_
                          refine held_one 27 (by kernel_rfl) rfl rfl fun K hK => ?_
                          go_simp
                          refine hK _ _ (fun _ => (hb1.more _).drew) ?_
                          clear hK K
                          refine held_fin 28 (by kernel_rfl) rfl rfl (by simp) fun K hK => ?_
                          go_simp
                          refine hK _ _ (held_done (by kernel_rfl) ?_ _)
                          clear hK K hne y0 y1 ca1 cb1 ya yb
                          have hbet2 := (HBet.out.alloc HJ.out #[.bool false, .bool false] 80).drew HJ.out
                          have hb2 := hbet2.2.1
                          have c0 := hb2.cell (o := 0) List.mem_cons_self rfl
                          have c1 := hb2.cell (o := 1) List.mem_cons_self rfl
                          haveI hne := clsTrue (S := fun w' => Has W w' ((wr.heap.size, .cells #[.bool false, .bool false] 80 (0, 0)) :: (Hc ++ H))) hb2
                          have z0 := fun x : Cw (cls true (fun w' => Has W w' ((wr.heap.size, .cells #[.bool false, .bool false] 80 (0, 0)) :: (Hc ++ H)))) => (x.h rfl).cell (o := 0) List.mem_cons_self rfl
                          have z1 := fun x : Cw (cls true (fun w' => Has W w' ((wr.heap.size, .cells #[.bool false, .bool false] 80 (0, 0)) :: (Hc ++ H)))) => (x.h rfl).cell (o := 1) List.mem_cons_self rfl
                          have z2 := fun x : Cw (cls true (fun w' => Has W w' ((wr.heap.size, .cells #[.bool false, .bool false] 80 (0, 0)) :: (Hc ++ H)))) => int_cell (x.h rfl) (re.mono fun p hp => List.mem_cons_of_mem _ hp) hlt
                          go_wp2
                          refine heldI_start (fun w' => Has W w' ((wr.heap.size, .cells #[.bool false, .bool false] 80 (0, 0)) :: (Hc ++ H))) [9] (by kernel_rfl) ?_
                          refine heldI_seg true [true,true,true,true,true,true,true,true,true] 2 (by kernel_rfl) hb2.drew ?_
                          simp only [pickB]
                          repeat (go_big_quiet_step (fail))
                          refine wpQuiet_nil ?_
                          refine heldI_fin 9 (by kernel_rfl) rfl rfl (by simp) fun K hK => ?_
                          have hlen' : (prs.take m).length < prs.length := by rw [List.length_take, hE.2.1]; omega
                          obtain ⟨fn, tmps, assign, body, hy, hR⟩ := HY.out (prs.take m) (⟨x, es[m + 1]⟩, false, false) _ (hbet2.drew HJ.out).1 hlen'
                          dsimp only [encP] at hy
                          simp only [Oper.wpIn, Fence.wide_round, Oper.semAt_none]
                          refine ⟨fun _ _ => trivial, ?_⟩
                          clear z0 z1 z2 hne
                          have HR := Lib.hid hR
                          clear hR
                          go_simp
                          refine HR.out.mono ?_
                          clear hy HR
                          rintro e w4 (⟨rfl, hJ4, hk4⟩ | ⟨rfl, hJx4⟩)
                          · have hbet4 := ((hbet2.drew HJ.out).round hJ4 hk4).tail
                            have hbn : Hid (Bet W J B Bo (Hc ++ H) (prs.take (m + 1)) w4) := by
                              unfold Hid
                              rw [List.take_succ_eq_append_getElem (by rw [hE.2.1]; omega)]
                              have h5 := hE.2.2 m x es[m + 1] HX.out (List.getElem?_eq_getElem hlt)
                              rw [List.getElem?_eq_getElem (by rw [hE.2.1]; omega)] at h5
                              rw [Option.some.inj h5, hinla.out, hinlb.out, decide_eq_false (p := la[ia].lo ≤ x) (by omega), decide_eq_false (p := lb[ib].lo ≤ x) (by omega)]
                              exact hbet4
                            have hpn : Hid (∀ y, es[m + 1]? = some y → passed la ia y ∧ passed lb ib y) := fun y hy => by
                              have h6 := asc_next hE.1 HX.out hy
                              exact ⟨passed_mono hpla.out h6, passed_mono hplb.out h6⟩
                            refine hK _ _ ?_
                            clear hK K hJ4 hk4 hbet4
                            refine heldI_rest [false,false,false,false,false,false,false,false,false,false,true] 0 (by kernel_rfl) (by kernel_rfl) ?_
                            simp only [pickB]
                            repeat (go_big_quiet_step (fail))
                            refine wpQuiet_nil ?_
                            refine heldI_done (by kernel_rfl) ?_ _
                            go_wp2
                            go_roundw
                            case rel => exact ⟨m + 1, ia, ib, by go_num, rfl, rfl, by omega, hia, hib, hpn, hbn⟩
                            case measure => simp [intOf]; omega
                          · refine hK _ _ ?_
                            clear hK K
                            refine heldI_rest [false,false,false,false,false,false,false,false,false,false,true] 0 (by kernel_rfl) (by kernel_rfl) ?_
                            simp only [pickB]
                            repeat (go_big_quiet_step (fail))
                            refine wpQuiet_nil ?_
                            refine heldI_done (by kernel_rfl) ?_ _
                            go_wp2
                            refine bodyPost_ret (results_none rfl _ _ _) rfl ?_
                            exact ⟨⟨_, rfl⟩, .inr ⟨_, hJx4⟩⟩
                  · have hinlb : Hid (inB lb x = false) := inB_end hsepb hplb.out (by omega)
                    by_cases hloa : la[ia].lo ≤ x
                    · have ya := fun x : Cw (cls true (fun w' => Has W w' (Hc ++ H))) => (sp_cells (x.h rfl) (lar.mono hmH) (List.getElem?_eq_getElem hlla)).1
                      go_wp2
                      haveI hne := clsTrue (S := fun w' => Has W w' (Hc ++ H)) hb1
                      refine held_start (fun w' => Has W w' (Hc ++ H)) [28] (by kernel_rfl) ?_
                      refine held_seg true [true,true,true,true,true,true,true,true,true,true,true,true,true,true,true,true,true,true,true,true,true,true,true,true,true,true,true] 2 (by kernel_rfl) hb1.drew ?_
                      simp only [pickB]
                      repeat (go_big_quiet_step (fail))
                      refine wpQuiet_nil ?_
                      refine held_one 27 (by kernel_rfl) rfl rfl fun K hK => ?_
                      go_simp
                      refine hK _ _ (fun _ => (hb1.more _).drew) ?_
                      clear hK K
                      refine held_fin 28 (by kernel_rfl) rfl rfl (by simp) fun K hK => ?_
                      go_simp
                      refine hK _ _ (held_done (by kernel_rfl) ?_ _)
                      clear hK K hne y0 y1 ca1 cb1 ya
                      have hbet2 := (HBet.out.alloc HJ.out #[.bool true, .bool false] 80).drew HJ.out
                      have hb2 := hbet2.2.1
                      have c0 := hb2.cell (o := 0) List.mem_cons_self rfl
                      have c1 := hb2.cell (o := 1) List.mem_cons_self rfl
                      haveI hne := clsTrue (S := fun w' => Has W w' ((wr.heap.size, .cells #[.bool true, .bool false] 80 (0, 0)) :: (Hc ++ H))) hb2
                      have z0 := fun x : Cw (cls true (fun w' => Has W w' ((wr.heap.size, .cells #[.bool true, .bool false] 80 (0, 0)) :: (Hc ++ H)))) => (x.h rfl).cell (o := 0) List.mem_cons_self rfl
                      have z1 := fun x : Cw (cls true (fun w' => Has W w' ((wr.heap.size, .cells #[.bool true, .bool false] 80 (0, 0)) :: (Hc ++ H)))) => (x.h rfl).cell (o := 1) List.mem_cons_self rfl
                      have z2 := fun x : Cw (cls true (fun w' => Has W w' ((wr.heap.size, .cells #[.bool true, .bool false] 80 (0, 0)) :: (Hc ++ H)))) => int_cell (x.h rfl) (re.mono fun p hp => List.mem_cons_of_mem _ hp) hlt
                      go_wp2
                      refine heldI_start (fun w' => Has W w' ((wr.heap.size, .cells #[.bool true, .bool false] 80 (0, 0)) :: (Hc ++ H))) [9] (by kernel_rfl) ?_
                      refine heldI_seg true [true,true,true,true,true,true,true,true,true] 2 (by kernel_rfl) hb2.drew ?_
                      simp only [pickB]
                      repeat (go_big_quiet_step (fail))
                      refine wpQuiet_nil ?_
                      refine heldI_fin 9 (by kernel_rfl) rfl rfl (by simp) fun K hK => ?_
                      have hlen' : (prs.take m).length < prs.length := by rw [List.length_take, hE.2.1]; omega
                      obtain ⟨fn, tmps, assign, body, hy, hR⟩ := HY.out (prs.take m) (⟨x, es[m + 1]⟩, true, false) _ (hbet2.drew HJ.out).1 hlen'
                      dsimp only [encP] at hy
                      simp only [Oper.wpIn, Fence.wide_round, Oper.semAt_none]
                      refine ⟨fun _ _ => trivial, ?_⟩
                      clear z0 z1 z2 hne
                      have HR := Lib.hid hR
                      clear hR
                      go_simp
                      refine HR.out.mono ?_
                      clear hy HR
                      rintro e w4 (⟨rfl, hJ4, hk4⟩ | ⟨rfl, hJx4⟩)
                      · have hbet4 := ((hbet2.drew HJ.out).round hJ4 hk4).tail
                        have hbn : Hid (Bet W J B Bo (Hc ++ H) (prs.take (m + 1)) w4) := by
                          unfold Hid
                          rw [List.take_succ_eq_append_getElem (by rw [hE.2.1]; omega)]
                          have h5 := hE.2.2 m x es[m + 1] HX.out (List.getElem?_eq_getElem hlt)
                          rw [List.getElem?_eq_getElem (by rw [hE.2.1]; omega)] at h5
                          rw [Option.some.inj h5, hinla.out, hinlb.out, decide_eq_true hloa]
                          exact hbet4
                        have hpn : Hid (∀ y, es[m + 1]? = some y → passed la ia y ∧ passed lb ib y) := fun y hy => by
                          have h6 := asc_next hE.1 HX.out hy
                          exact ⟨passed_mono hpla.out h6, passed_mono hplb.out h6⟩
                        refine hK _ _ ?_
                        clear hK K hJ4 hk4 hbet4
                        refine heldI_rest [false,false,false,false,false,false,false,false,false,false,true] 0 (by kernel_rfl) (by kernel_rfl) ?_
                        simp only [pickB]
                        repeat (go_big_quiet_step (fail))
                        refine wpQuiet_nil ?_
                        refine heldI_done (by kernel_rfl) ?_ _
                        go_wp2
                        go_roundw
                        case rel => exact ⟨m + 1, ia, ib, by go_num, rfl, rfl, by omega, hia, hib, hpn, hbn⟩
                        case measure => simp [intOf]; omega
                      · refine hK _ _ ?_
                        clear hK K
                        refine heldI_rest [false,false,false,false,false,false,false,false,false,false,true] 0 (by kernel_rfl) (by kernel_rfl) ?_
                        simp only [pickB]
                        repeat (go_big_quiet_step (fail))
                        refine wpQuiet_nil ?_
                        refine heldI_done (by kernel_rfl) ?_ _
                        go_wp2
                        refine bodyPost_ret (results_none rfl _ _ _) rfl ?_
                        exact ⟨⟨_, rfl⟩, .inr ⟨_, hJx4⟩⟩
                    · have ya := fun x : Cw (cls true (fun w' => Has W w' (Hc ++ H))) => (sp_cells (x.h rfl) (lar.mono hmH) (List.getElem?_eq_getElem hlla)).1
                      have hda : decide (la[ia].lo ≤ x) = false := by simpa using hloa
                      go_wp2
                      haveI hne := clsTrue (S := fun w' => Has W w' (Hc ++ H)) hb1
                      refine held_start (fun w' => Has W w' (Hc ++ H)) [28] (by kernel_rfl) ?_
                      refine held_seg true [true,true,true,true,true,true,true,true,true,true,true,true,true,true,true,true,true,true,true,true,true,true,true,true,true,true,true] 2 (by kernel_rfl) hb1.drew ?_
                      simp only [pickB]
                      repeat (go_big_quiet_step (fail))
                      refine wpQuiet_nil ?_
                      refine held_one 27 (by kernel_rfl) rfl rfl fun K hK => ?_
                      go_simp
                      refine hK _ _ (fun _ => (hb1.more _).drew) ?_
                      clear hK K
                      refine held_fin 28 (by kernel_rfl) rfl rfl (by simp) fun K hK => ?_
                      go_simp
                      refine hK _ _ (held_done (by kernel_rfl) ?_ _)
                      clear hK K hne y0 y1 ca1 cb1 ya
                      have hbet2 := (HBet.out.alloc HJ.out #[.bool false, .bool false] 80).drew HJ.out
                      have hb2 := hbet2.2.1
                      have c0 := hb2.cell (o := 0) List.mem_cons_self rfl
                      have c1 := hb2.cell (o := 1) List.mem_cons_self rfl
                      haveI hne := clsTrue (S := fun w' => Has W w' ((wr.heap.size, .cells #[.bool false, .bool false] 80 (0, 0)) :: (Hc ++ H))) hb2
                      have z0 := fun x : Cw (cls true (fun w' => Has W w' ((wr.heap.size, .cells #[.bool false, .bool false] 80 (0, 0)) :: (Hc ++ H)))) => (x.h rfl).cell (o := 0) List.mem_cons_self rfl
                      have z1 := fun x : Cw (cls true (fun w' => Has W w' ((wr.heap.size, .cells #[.bool false, .bool false] 80 (0, 0)) :: (Hc ++ H)))) => (x.h rfl).cell (o := 1) List.mem_cons_self rfl
                      have z2 := fun x : Cw (cls true (fun w' => Has W w' ((wr.heap.size, .cells #[.bool false, .bool false] 80 (0, 0)) :: (Hc ++ H)))) => int_cell (x.h rfl) (re.mono fun p hp => List.mem_cons_of_mem _ hp) hlt
                      go_wp2
                      refine heldI_start (fun w' => Has W w' ((wr.heap.size, .cells #[.bool false, .bool false] 80 (0, 0)) :: (Hc ++ H))) [9] (by kernel_rfl) ?_
                      refine heldI_seg true [true,true,true,true,true,true,true,true,true] 2 (by kernel_rfl) hb2.drew ?_
                      simp only [pickB]
                      repeat (go_big_quiet_step (fail))
                      refine wpQuiet_nil ?_
                      refine heldI_fin 9 (by kernel_rfl) rfl rfl (by simp) fun K hK => ?_
                      have hlen' : (prs.take m).length < prs.length := by rw [List.length_take, hE.2.1]; omega
                      obtain ⟨fn, tmps, assign, body, hy, hR⟩ := HY.out (prs.take m) (⟨x, es[m + 1]⟩, false, false) _ (hbet2.drew HJ.out).1 hlen'
                      dsimp only [encP] at hy
                      simp only [Oper.wpIn, Fence.wide_round, Oper.semAt_none]
                      refine ⟨fun _ _ => trivial, ?_⟩
                      clear z0 z1 z2 hne
                      have HR := Lib.hid hR
                      clear hR
                      go_simp
                      refine HR.out.mono ?_
                      clear hy HR
                      rintro e w4 (⟨rfl, hJ4, hk4⟩ | ⟨rfl, hJx4⟩)
                      · have hbet4 := ((hbet2.drew HJ.out).round hJ4 hk4).tail
                        have hbn : Hid (Bet W J B Bo (Hc ++ H) (prs.take (m + 1)) w4) := by
                          unfold Hid
                          rw [List.take_succ_eq_append_getElem (by rw [hE.2.1]; omega)]
                          have h5 := hE.2.2 m x es[m + 1] HX.out (List.getElem?_eq_getElem hlt)
                          rw [List.getElem?_eq_getElem (by rw [hE.2.1]; omega)] at h5
                          rw [Option.some.inj h5, hinla.out, hinlb.out, decide_eq_false (p := la[ia].lo ≤ x) (by omega)]
                          exact hbet4
                        have hpn : Hid (∀ y, es[m + 1]? = some y → passed la ia y ∧ passed lb ib y) := fun y hy => by
                          have h6 := asc_next hE.1 HX.out hy
                          exact ⟨passed_mono hpla.out h6, passed_mono hplb.out h6⟩
                        refine hK _ _ ?_
                        clear hK K hJ4 hk4 hbet4
                        refine heldI_rest [false,false,false,false,false,false,false,false,false,false,true] 0 (by kernel_rfl) (by kernel_rfl) ?_
                        simp only [pickB]
                        repeat (go_big_quiet_step (fail))
                        refine wpQuiet_nil ?_
                        refine heldI_done (by kernel_rfl) ?_ _
                        go_wp2
                        go_roundw
                        case rel => exact ⟨m + 1, ia, ib, by go_num, rfl, rfl, by omega, hia, hib, hpn, hbn⟩
                        case measure => simp [intOf]; omega
                      · refine hK _ _ ?_
                        clear hK K
                        refine heldI_rest [false,false,false,false,false,false,false,false,false,false,true] 0 (by kernel_rfl) (by kernel_rfl) ?_
                        simp only [pickB]
                        repeat (go_big_quiet_step (fail))
                        refine wpQuiet_nil ?_
                        refine heldI_done (by kernel_rfl) ?_ _
                        go_wp2
                        refine bodyPost_ret (results_none rfl _ _ _) rfl ?_
                        exact ⟨⟨_, rfl⟩, .inr ⟨_, hJx4⟩⟩
            · have hinla : Hid (inB la x = false) := inB_end hsepa hpla.out (by omega)
              go_wp2
              go_loop [10] (fun i => ∃ ib : Nat, i = .int .i64 ib ∧ ib ≤ lb.length ∧ Hid (passed lb ib x)) (fun i => lb.length - (intOf i).toNat)
              case atStart => exact ⟨ib, rfl, hib, hpB⟩
              case round =>
                clear hpB
                obtain ⟨ib, rfl, hib, hplb⟩ := hrel
                by_cases hllb : ib < lb.length
                · obtain ⟨lbb, lbo, rfl, lbr⟩ := hrb (by omega)
                  obtain ⟨lb0, lb1⟩ := sp_cells hb1 (lbr.mono hmH) (List.getElem?_eq_getElem hllb)
                  by_cases hh : lb[ib].hi ≤ x
                  · have hn : Hid (passed lb (ib + 1) x) := passed_succ hplb.out (List.getElem?_eq_getElem hllb) hh
                    go_wp2
                    go_round
                    case rel => exact ⟨ib + 1, by go_num, by omega, hn⟩
                    case measure => simp [intOf]; omega
                  · have hinlb : Hid (inB lb x = decide (lb[ib].lo ≤ x)) := inB_at hsepb hplb.out (List.getElem?_eq_getElem hllb) (by omega)
                    by_cases hlob : lb[ib].lo ≤ x
                    · have yb := fun x : Cw (cls true (fun w' => Has W w' (Hc ++ H))) => (sp_cells (x.h rfl) (lbr.mono hmH) (List.getElem?_eq_getElem hllb)).1
                      go_wp2
                      haveI hne := clsTrue (S := fun w' => Has W w' (Hc ++ H)) hb1
                      refine held_start (fun w' => Has W w' (Hc ++ H)) [28] (by kernel_rfl) ?_
                      refine held_seg true [true,true,true,true,true,true,true,true,true,true,true,true,true,true,true,true,true,true,true,true,true,true,true,true,true,true,true] 2 (by kernel_rfl) hb1.drew ?_
                      simp only [pickB]
                      repeat (go_big_quiet_step (fail))
                      refine wpQuiet_nil ?_
                      refine held_one 27 (by kernel_rfl) rfl rfl fun K hK => ?_
                      go_simp
                      refine hK _ _ (fun _ => (hb1.more _).drew) ?_
                      clear hK K
                      refine held_fin 28 (by kernel_rfl) rfl rfl (by simp) fun K hK => ?_
                      go_simp
                      refine hK _ _ (held_done (by kernel_rfl) ?_ _)
                      clear hK K hne y0 y1 ca1 cb1 yb
                      have hbet2 := (HBet.out.alloc HJ.out #[.bool false, .bool true] 80).drew HJ.out
                      have hb2 := hbet2.2.1
                      have c0 := hb2.cell (o := 0) List.mem_cons_self rfl
                      have c1 := hb2.cell (o := 1) List.mem_cons_self rfl
                      haveI hne := clsTrue (S := fun w' => Has W w' ((wr.heap.size, .cells #[.bool false, .bool true] 80 (0, 0)) :: (Hc ++ H))) hb2
                      have z0 := fun x : Cw (cls true (fun w' => Has W w' ((wr.heap.size, .cells #[.bool false, .bool true] 80 (0, 0)) :: (Hc ++ H)))) => (x.h rfl).cell (o := 0) List.mem_cons_self rfl
                      have z1 := fun x : Cw (cls true (fun w' => Has W w' ((wr.heap.size, .cells #[.bool false, .bool true] 80 (0, 0)) :: (Hc ++ H)))) => (x.h rfl).cell (o := 1) List.mem_cons_self rfl
                      have z2 := fun x : Cw (cls true (fun w' => Has W w' ((wr.heap.size, .cells #[.bool false, .bool true] 80 (0, 0)) :: (Hc ++ H)))) => int_cell (x.h rfl) (re.mono fun p hp => List.mem_cons_of_mem _ hp) hlt
                      go_wp2
                      refine heldI_start (fun w' => Has W w' ((wr.heap.size, .cells #[.bool false, .bool true] 80 (0, 0)) :: (Hc ++ H))) [9] (by kernel_rfl) ?_
                      refine heldI_seg true [true,true,true,true,true,true,true,true,true] 2 (by kernel_rfl) hb2.drew ?_
                      simp only [pickB]
                      repeat (go_big_quiet_step (fail))
                      refine wpQuiet_nil ?_
                      refine heldI_fin 9 (by kernel_rfl) rfl rfl (by simp) fun K hK => ?_
                      have hlen' : (prs.take m).length < prs.length := by rw [List.length_take, hE.2.1]; omega
                      obtain ⟨fn, tmps, assign, body, hy, hR⟩ := HY.out (prs.take m) (⟨x, es[m + 1]⟩, false, true) _ (hbet2.drew HJ.out).1 hlen'
                      dsimp only [encP] at hy
                      simp only [Oper.wpIn, Fence.wide_round, Oper.semAt_none]
                      refine ⟨fun _ _ => trivial, ?_⟩
                      clear z0 z1 z2 hne
                      have HR := Lib.hid hR
                      clear hR
                      go_simp
                      refine HR.out.mono ?_
                      clear hy HR
                      rintro e w4 (⟨rfl, hJ4, hk4⟩ | ⟨rfl, hJx4⟩)
                      · have hbet4 := ((hbet2.drew HJ.out).round hJ4 hk4).tail
                        have hbn : Hid (Bet W J B Bo (Hc ++ H) (prs.take (m + 1)) w4) := by
                          unfold Hid
                          rw [List.take_succ_eq_append_getElem (by rw [hE.2.1]; omega)]
                          have h5 := hE.2.2 m x es[m + 1] HX.out (List.getElem?_eq_getElem hlt)
                          rw [List.getElem?_eq_getElem (by rw [hE.2.1]; omega)] at h5
                          rw [Option.some.inj h5, hinla.out, hinlb.out, decide_eq_true hlob]
                          exact hbet4
                        have hpn : Hid (∀ y, es[m + 1]? = some y → passed la ia y ∧ passed lb ib y) := fun y hy => by
                          have h6 := asc_next hE.1 HX.out hy
                          exact ⟨passed_mono hpla.out h6, passed_mono hplb.out h6⟩
                        refine hK _ _ ?_
                        clear hK K hJ4 hk4 hbet4
                        refine heldI_rest [false,false,false,false,false,false,false,false,false,false,true] 0 (by kernel_rfl) (by kernel_rfl) ?_
                        simp only [pickB]
                        repeat (go_big_quiet_step (fail))
                        refine wpQuiet_nil ?_
                        refine heldI_done (by kernel_rfl) ?_ _
                        go_wp2
                        go_roundw
                        case rel => exact ⟨m + 1, ia, ib, by go_num, rfl, rfl, by omega, hia, hib, hpn, hbn⟩
                        case measure => simp [intOf]; omega
                      · refine hK _ _ ?_
                        clear hK K
                        refine heldI_rest [false,false,false,false,false,false,false,false,false,false,true] 0 (by kernel_rfl) (by kernel_rfl) ?_
                        simp only [pickB]
                        repeat (go_big_quiet_step (fail))
                        refine wpQuiet_nil ?_
                        refine heldI_done (by kernel_rfl) ?_ _
                        go_wp2
                        refine bodyPost_ret (results_none rfl _ _ _) rfl ?_
                        exact ⟨⟨_, rfl⟩, .inr ⟨_, hJx4⟩⟩
                    · have yb := fun x : Cw (cls true (fun w' => Has W w' (Hc ++ H))) => (sp_cells (x.h rfl) (lbr.mono hmH) (List.getElem?_eq_getElem hllb)).1
                      have hdb : decide (lb[ib].lo ≤ x) = false := by simpa using hlob
                      go_wp2
                      haveI hne := clsTrue (S := fun w' => Has W w' (Hc ++ H)) hb1
                      refine held_start (fun w' => Has W w' (Hc ++ H)) [28] (by kernel_rfl) ?_
                      refine held_seg true [true,true,true,true,true,true,true,true,true,true,true,true,true,true,true,true,true,true,true,true,true,true,true,true,true,true,true] 2 (by kernel_rfl) hb1.drew ?_
                      simp only [pickB]
                      repeat (go_big_quiet_step (fail))
                      refine wpQuiet_nil ?_
                      refine held_one 27 (by kernel_rfl) rfl rfl fun K hK => ?_
                      go_simp
                      refine hK _ _ (fun _ => (hb1.more _).drew) ?_
                      clear hK K
                      refine held_fin 28 (by kernel_rfl) rfl rfl (by simp) fun K hK => ?_
                      go_simp
                      refine hK _ _ (held_done (by kernel_rfl) ?_ _)
                      clear hK K hne y0 y1 ca1 cb1 yb
                      have hbet2 := (HBet.out.alloc HJ.out #[.bool false, .bool false] 80).drew HJ.out
                      have hb2 := hbet2.2.1
                      have c0 := hb2.cell (o := 0) List.mem_cons_self rfl
                      have c1 := hb2.cell (o := 1) List.mem_cons_self rfl
                      haveI hne := clsTrue (S := fun w' => Has W w' ((wr.heap.size, .cells #[.bool false, .bool false] 80 (0, 0)) :: (Hc ++ H))) hb2
                      have z0 := fun x : Cw (cls true (fun w' => Has W w' ((wr.heap.size, .cells #[.bool false, .bool false] 80 (0, 0)) :: (Hc ++ H)))) => (x.h rfl).cell (o := 0) List.mem_cons_self rfl
                      have z1 := fun x : Cw (cls true (fun w' => Has W w' ((wr.heap.size, .cells #[.bool false, .bool false] 80 (0, 0)) :: (Hc ++ H)))) => (x.h rfl).cell (o := 1) List.mem_cons_self rfl
                      have z2 := fun x : Cw (cls true (fun w' => Has W w' ((wr.heap.size, .cells #[.bool false, .bool false] 80 (0, 0)) :: (Hc ++ H)))) => int_cell (x.h rfl) (re.mono fun p hp => List.mem_cons_of_mem _ hp) hlt
                      go_wp2
                      refine heldI_start (fun w' => Has W w' ((wr.heap.size, .cells #[.bool false, .bool false] 80 (0, 0)) :: (Hc ++ H))) [9] (by kernel_rfl) ?_
                      refine heldI_seg true [true,true,true,true,true,true,true,true,true] 2 (by kernel_rfl) hb2.drew ?_
                      simp only [pickB]
                      repeat (go_big_quiet_step (fail))
                      refine wpQuiet_nil ?_
                      refine heldI_fin 9 (by kernel_rfl) rfl rfl (by simp) fun K hK => ?_
                      have hlen' : (prs.take m).length < prs.length := by rw [List.length_take, hE.2.1]; omega
                      obtain ⟨fn, tmps, assign, body, hy, hR⟩ := HY.out (prs.take m) (⟨x, es[m + 1]⟩, false, false) _ (hbet2.drew HJ.out).1 hlen'
                      dsimp only [encP] at hy
                      simp only [Oper.wpIn, Fence.wide_round, Oper.semAt_none]
                      refine ⟨fun _ _ => trivial, ?_⟩
                      clear z0 z1 z2 hne
                      have HR := Lib.hid hR
                      clear hR
                      go_simp
                      refine HR.out.mono ?_
                      clear hy HR
                      rintro e w4 (⟨rfl, hJ4, hk4⟩ | ⟨rfl, hJx4⟩)
                      · have hbet4 := ((hbet2.drew HJ.out).round hJ4 hk4).tail
                        have hbn : Hid (Bet W J B Bo (Hc ++ H) (prs.take (m + 1)) w4) := by
                          unfold Hid
                          rw [List.take_succ_eq_append_getElem (by rw [hE.2.1]; omega)]
                          have h5 := hE.2.2 m x es[m + 1] HX.out (List.getElem?_eq_getElem hlt)
                          rw [List.getElem?_eq_getElem (by rw [hE.2.1]; omega)] at h5
                          rw [Option.some.inj h5, hinla.out, hinlb.out, decide_eq_false (p := lb[ib].lo ≤ x) (by omega)]
                          exact hbet4
                        have hpn : Hid (∀ y, es[m + 1]? = some y → passed la ia y ∧ passed lb ib y) := fun y hy => by
                          have h6 := asc_next hE.1 HX.out hy
                          exact ⟨passed_mono hpla.out h6, passed_mono hplb.out h6⟩
                        refine hK _ _ ?_
                        clear hK K hJ4 hk4 hbet4
                        refine heldI_rest [false,false,false,false,false,false,false,false,false,false,true] 0 (by kernel_rfl) (by kernel_rfl) ?_
                        simp only [pickB]
                        repeat (go_big_quiet_step (fail))
                        refine wpQuiet_nil ?_
                        refine heldI_done (by kernel_rfl) ?_ _
                        go_wp2
                        go_roundw
                        case rel => exact ⟨m + 1, ia, ib, by go_num, rfl, rfl, by omega, hia, hib, hpn, hbn⟩
                        case measure => simp [intOf]; omega
                      · refine hK _ _ ?_
                        clear hK K
                        refine heldI_rest [false,false,false,false,false,false,false,false,false,false,true] 0 (by kernel_rfl) (by kernel_rfl) ?_
                        simp only [pickB]
                        repeat (go_big_quiet_step (fail))
                        refine wpQuiet_nil ?_
                        refine heldI_done (by kernel_rfl) ?_ _
                        go_wp2
                        refine bodyPost_ret (results_none rfl _ _ _) rfl ?_
                        exact ⟨⟨_, rfl⟩, .inr ⟨_, hJx4⟩⟩
                · have hinlb : Hid (inB lb x = false) := inB_end hsepb hplb.out (by omega)
                  go_wp2
                  haveI hne := clsTrue (S := fun w' => Has W w' (Hc ++ H)) hb1
                  refine held_start (fun w' => Has W w' (Hc ++ H)) [28] (by kernel_rfl) ?_
                  refine held_seg true [true,true,true,true,true,true,true,true,true,true,true,true,true,true,true,true,true,true,true,true,true,true,true,true,true,true,true] 2 (by kernel_rfl) hb1.drew ?_
                  simp only [pickB]
                  repeat (go_big_quiet_step (fail))
                  refine wpQuiet_nil ?_
                  refine held_one 27 (by kernel_rfl) rfl rfl fun K hK => ?_
                  go_simp
                  refine hK _ _ (fun _ => (hb1.more _).drew) ?_
                  clear hK K
                  refine held_fin 28 (by kernel_rfl) rfl rfl (by simp) fun K hK => ?_
                  go_simp
                  refine hK _ _ (held_done (by kernel_rfl) ?_ _)
                  clear hK K hne y0 y1 ca1 cb1
                  have hbet2 := (HBet.out.alloc HJ.out #[.bool false, .bool false] 80).drew HJ.out
                  have hb2 := hbet2.2.1
                  have c0 := hb2.cell (o := 0) List.mem_cons_self rfl
                  have c1 := hb2.cell (o := 1) List.mem_cons_self rfl
                  haveI hne := clsTrue (S := fun w' => Has W w' ((wr.heap.size, .cells #[.bool false, .bool false] 80 (0, 0)) :: (Hc ++ H))) hb2
                  have z0 := fun x : Cw (cls true (fun w' => Has W w' ((wr.heap.size, .cells #[.bool false, .bool false] 80 (0, 0)) :: (Hc ++ H)))) => (x.h rfl).cell (o := 0) List.mem_cons_self rfl
                  have z1 := fun x : Cw (cls true (fun w' => Has W w' ((wr.heap.size, .cells #[.bool false, .bool false] 80 (0, 0)) :: (Hc ++ H)))) => (x.h rfl).cell (o := 1) List.mem_cons_self rfl
                  have z2 := fun x : Cw (cls true (fun w' => Has W w' ((wr.heap.size, .cells #[.bool false, .bool false] 80 (0, 0)) :: (Hc ++ H)))) => int_cell (x.h rfl) (re.mono fun p hp => List.mem_cons_of_mem _ hp) hlt
                  go_wp2
                  refine heldI_start (fun w' => Has W w' ((wr.heap.size, .cells #[.bool false, .bool false] 80 (0, 0)) :: (Hc ++ H))) [9] (by kernel_rfl) ?_
                  refine heldI_seg true [true,true,true,true,true,true,true,true,true] 2 (by kernel_rfl) hb2.drew ?_
                  simp only [pickB]
                  repeat (go_big_quiet_step (fail))
                  refine wpQuiet_nil ?_
                  refine heldI_fin 9 (by kernel_rfl) rfl rfl (by simp) fun K hK => ?_
                  have hlen' : (prs.take m).length < prs.length := by rw [List.length_take, hE.2.1]; omega
                  obtain ⟨fn, tmps, assign, body, hy, hR⟩ := HY.out (prs.take m) (⟨x, es[m + 1]⟩, false, false) _ (hbet2.drew HJ.out).1 hlen'
                  dsimp only [encP] at hy
                  simp only [Oper.wpIn, Fence.wide_round, Oper.semAt_none]
                  refine ⟨fun _ _ => trivial, ?_⟩
                  clear z0 z1 z2 hne
                  have HR := Lib.hid hR
                  clear hR
                  go_simp
                  refine HR.out.mono ?_
                  clear hy HR
                  rintro e w4 (⟨rfl, hJ4, hk4⟩ | ⟨rfl, hJx4⟩)
                  · have hbet4 := ((hbet2.drew HJ.out).round hJ4 hk4).tail
                    have hbn : Hid (Bet W J B Bo (Hc ++ H) (prs.take (m + 1)) w4) := by
                      unfold Hid
                      rw [List.take_succ_eq_append_getElem (by rw [hE.2.1]; omega)]
                      have h5 := hE.2.2 m x es[m + 1] HX.out (List.getElem?_eq_getElem hlt)
                      rw [List.getElem?_eq_getElem (by rw [hE.2.1]; omega)] at h5
                      rw [Option.some.inj h5, hinla.out, hinlb.out]
                      exact hbet4
                    have hpn : Hid (∀ y, es[m + 1]? = some y → passed la ia y ∧ passed lb ib y) := fun y hy => by
                      have h6 := asc_next hE.1 HX.out hy
                      exact ⟨passed_mono hpla.out h6, passed_mono hplb.out h6⟩
                    refine hK _ _ ?_
                    clear hK K hJ4 hk4 hbet4
                    refine heldI_rest [false,false,false,false,false,false,false,false,false,false,true] 0 (by kernel_rfl) (by kernel_rfl) ?_
                    simp only [pickB]
                    repeat (go_big_quiet_step (fail))
                    refine wpQuiet_nil ?_
                    refine heldI_done (by kernel_rfl) ?_ _
                    go_wp2
                    go_roundw
                    case rel => exact ⟨m + 1, ia, ib, by go_num, rfl, rfl, by omega, hia, hib, hpn, hbn⟩
                    case measure => simp [intOf]; omega
                  · refine hK _ _ ?_
                    clear hK K
                    refine heldI_rest [false,false,false,false,false,false,false,false,false,false,true] 0 (by kernel_rfl) (by kernel_rfl) ?_
                    simp only [pickB]
                    repeat (go_big_quiet_step (fail))
                    refine wpQuiet_nil ?_
                    refine heldI_done (by kernel_rfl) ?_ _
                    go_wp2
                    refine bodyPost_ret (results_none rfl _ _ _) rfl ?_
                    exact ⟨⟨_, rfl⟩, .inr ⟨_, hJx4⟩⟩
        · have hend : Hid (J prs wr) := by
            have h1 := HBet.out.1
            rwa [List.take_of_length_le (by rw [hE.2.1]; omega)] at h1
          have hge : es.length ≤ m + 1 := by omega
          clear hlt
          go_wp2
          go_end0
          exact ⟨⟨_, rfl⟩, .inl ⟨_, rfl, by rw [HES.out, HPR.out]; exact hend.out⟩⟩

end Go.Proofs.YtifeapnhemolgaaGreatDoor.Wk
