/- What the functions of the sets do that only look: a valid span, a set, the same spans. -/
import Derived.Test.YtifeapnhemolgaaGreatDoorProg
import Derived.Test.YtifeapnhemolgaaGreatDoorHl
import Derived.Test.YtifeapnhemolgaaGreatDoorPa
import Derived.Test.YtifeapnhemolgaaGreatDoorRg
namespace Go.Proofs.YtifeapnhemolgaaGreatDoor.Wk
open Go Go.RowKit Go.Proofs.YtifeapnhemolgaaGreatDoor.HL Go.Proofs.YtifeapnhemolgaaGreatDoor.Pl

def Pl.Sp.cells (s : Sp) : List Value := [.int .i64 s.lo, .int .i64 s.hi]
def Pl.Sp.val (s : Sp) : Value := .agg #[.int .i64 s.lo, .int .i64 s.hi]
/-- The cells of spans. -/
def spc (l : List Sp) : List Value := l.flatMap fun s => [.int .i64 s.lo, .int .i64 s.hi]

theorem spc_length (l : List Sp) : (spc l).length = l.length * 2 := by
  induction l with
  | nil => rfl
  | cons s l ih => simp [spc] at ih ⊢; omega

theorem spc_lo : ∀ (l : List Sp) (i : Nat) (s : Sp), l[i]? = some s → (spc l)[i * 2]? = some (.int .i64 s.lo) ∧ (spc l)[i * 2 + 1]? = some (.int .i64 s.hi)
  | [], i, s, h => by simp at h
  | t :: l, 0, s, h => by simp at h; subst h; simp [spc]
  | t :: l, i + 1, s, h => by
    have ih := spc_lo l i s (by simpa using h)
    have e : spc (t :: l) = .int .i64 t.lo :: .int .i64 t.hi :: spc l := by simp [spc]
    rw [e, show (i + 1) * 2 = i * 2 + 1 + 1 by omega]
    simpa using ih

/-- A span's two cells in a world. -/
theorem sp_cells {S w : World} {H : Hp} {b off : Nat} {l : List Sp} (hw : Has S w H) (hr : RowAt H b off (spc l)) {i : Nat} {s : Sp} (hi : l[i]? = some s) :
    w.cell? ⟨b, off + i * 2, none⟩ = some (.int .i64 s.lo) ∧ w.cell? ⟨b, off + i * 2 + 1, none⟩ = some (.int .i64 s.hi) :=
  ⟨hr.cell hw (spc_lo l i s hi).1, hr.cell hw (spc_lo l i s hi).2⟩

set_option maxHeartbeats 800000 in
theorem valid_calls (s : Sp) (w : World) : Calls Tryz.prog 42 #[.agg #[.int .i64 s.lo, .int .i64 s.hi]] w fun e w' => e = .returned (.bool s.ok) ∧ Below w.heap.size w w' := by
  obtain ⟨lo, hi⟩ := s
  by_cases h1 : -1099511627776 ≤ lo <;> by_cases h2 : lo < hi <;> by_cases h3 : hi ≤ 1099511627776
  all_goals first | (exfalso; omega) | skip
  all_goals
    go_enter Tryz.func42, Tryz.ntmps42
    go_wp2
    go_ret
    exact ⟨by simp [Sp.ok, h1, h2, h3], (Below.refl _ _).alloc (Nat.le_refl _) _⟩

theorem neq_sp (w : World) (a b c d : Int) : (binOp .neq 41 (.agg #[.int .i64 a, .int .i64 b]) (.agg #[.int .i64 c, .int .i64 d])).run Tryz.prog w = .ok (.bool (!(a == c && b == d))) w := by
  have u3 := Tryz.underlying3
  have a3 := Tryz.isAgg3
  have z3 := Tryz.sizeOf3
  have hS : Tryz.prog.underlying 41 = some (.struct (Tryz.prog.fieldsOf 41)) := by kernel_rfl
  have hp : Tryz.prog.stoodInHeld 41 = false := by kernel_rfl
  simp only [binOp]
  simp only [Op.equal, Op.maxDepth, Sem.run_bind]
  rw [show (10000 : Nat) = 9999 + 1 from rfl, run_equalIn_agg w 9999 41 _ _ hS hp]
  simp only [Program.fieldsOf, Tryz.underlying41]
  go_simp
  by_cases h1 : a = c <;> by_cases h2 : b = d <;> simp [h1, h2]

set_option maxHeartbeats 1600000 in
theorem same_calls (S w : World) (H : Hp) (hw : Has S w H) (va vb : Value) (la lb : List Sp) (ha : SlIn H 2 va la.length (spc la)) (hb : SlIn H 2 vb lb.length (spc lb)) (hm : la.length ≤ 1000000) :
    Calls Tryz.prog 11 #[va, vb] w fun e w' => e = .returned (.bool (decide (la = lb))) ∧ Below w.heap.size w w' := by
  obtain ⟨_, aa, ca, rfl, hca, hra⟩ := ha
  obtain ⟨_, ab, cb, rfl, hcb, hrb⟩ := hb
  by_cases hl : la.length = lb.length
  · have hl1 : ((la.length : Int) != (lb.length : Int)) = false := by simp; omega
    have HL := Lib.hid hl
    clear hl
    go_enter Tryz.func11, Tryz.ntmps11
    go_wp2
    go_loopw [5] (fun i wr => ∃ k : Nat, k ≤ la.length ∧ i = .int .i64 k ∧ Hid (la.take k = lb.take k) ∧ Below w.heap.size w wr) (fun i _ => la.length - (intOf i).toNat)
    case atStart => exact ⟨0, Nat.zero_le _, rfl, by simp [Hid], Below.refl _ _⟩
    case round =>
      obtain ⟨k, hk, rfl, he, hB⟩ := hrel
      have hw1 := hw.below hB
      by_cases hlt : k < la.length
      · obtain ⟨ba, oa, rfl, ra⟩ := hra (by omega)
        obtain ⟨bb, ob, rfl, rb⟩ := hrb (by have := HL.out; omega)
        have hlt' : k < lb.length := by have := HL.out; omega
        obtain ⟨a0, a1⟩ := sp_cells hw1 ra (List.getElem?_eq_getElem hlt)
        obtain ⟨b0, b1⟩ := sp_cells hw1 rb (List.getElem?_eq_getElem hlt')
        have hn := neq_sp
        by_cases heq : la[k] = lb[k]
        · rw [← heq] at b0 b1
          have HE := Lib.hid heq
          clear heq
          go_wp2
          go_quiet (fail)
          go_wp2
          refine ⟨⟨k + 1, by omega, by go_num, ?_, (bdrewN hB _)⟩, by simp [intOf]; omega⟩
          show la.take (k + 1) = lb.take (k + 1)
          rw [List.take_succ_eq_append_getElem hlt, List.take_succ_eq_append_getElem hlt', he.out, HE.out]
        · have hne : (!(la[k].lo == lb[k].lo && la[k].hi == lb[k].hi)) = true := by
            rw [Bool.not_eq_true', Bool.and_eq_false_iff, beq_eq_false_iff_ne, beq_eq_false_iff_ne]
            by_cases h1 : la[k].lo = lb[k].lo
            · right
              intro h2
              apply heq
              cases hx : la[k]; cases hy : lb[k]
              rw [hx, hy] at h1 h2
              simp at h1 h2 ⊢
              exact ⟨h1, h2⟩
            · exact .inl h1
          have hfin : Hid (decide (la = lb) = false) := by
            simp only [Hid, decide_eq_false_iff_not]
            intro h
            subst h
            exact heq rfl
          clear heq
          go_wp2
          go_quiet (fail)
          go_wp2
          go_ret
          exact ⟨by rw [hfin.out]; rfl, bdrewN hB _⟩
      · have hk' : k = la.length := by omega
        have hfin : Hid (decide (la = lb) = true) := by
          have h1 := he.out
          rw [hk', List.take_length, HL.out, List.take_length] at h1
          simp [Hid, h1]
        go_wp2
        go_ret
        exact ⟨by rw [hfin.out]; rfl, hB⟩
  · have hl1 : ((la.length : Int) != (lb.length : Int)) = true := by simp; omega
    have hfin : Hid (decide (la = lb) = false) := by
      simp only [Hid, decide_eq_false_iff_not]
      intro h
      subst h
      exact hl rfl
    clear hl
    go_enter Tryz.func11, Tryz.ntmps11
    go_wp2
    go_ret
    exact ⟨by rw [hfin.out]; rfl, Below.refl _ _⟩

end Go.Proofs.YtifeapnhemolgaaGreatDoor.Wk
