/- Spans written over; whether they were kept; a copy. -/
import Derived.Test.YtifeapnhemolgaaGreatDoorWf
import Derived.Lib.SliceRun
namespace Go.Proofs.YtifeapnhemolgaaGreatDoor.Wk
open Go Go.RowKit Go.Proofs.YtifeapnhemolgaaGreatDoor.HL Go.Proofs.YtifeapnhemolgaaGreatDoor.Pl

theorem sl_form {E : TypeId} {sz n : Nat} {v : Value} {xs : List Value} {Hs : Hp} (h : SlR E sz v n xs Hs) : ∃ ao cap, v = .slice ao n cap := by
  obtain ⟨_, ⟨rfl, rfl, _⟩ | ⟨b, off, cap, c, rfl, _⟩⟩ := h
  · exact ⟨_, _, rfl⟩
  · exact ⟨_, _, rfl⟩

/-- One span is stored into a slice of one's own. -/
theorem sp_store {S w : World} {F : Hp} {E : TypeId} {n cap : Nat} {ao : Option Addr} {xs : List Value} {Hs : Hp} (hv : SlR E 2 (.slice ao n cap) n xs Hs) (hw : Has S w (Hs ++ F)) {k : Nat} (hk : k < n) (x y : Value) :
    ∃ b off u v, ao = some ⟨b, off, none⟩ ∧ w.cell? ⟨b, off + k * 2, none⟩ = some u ∧ w.cell? ⟨b, off + k * 2 + 1, none⟩ = some v ∧ w.frozen? ⟨b, off + k * 2, none⟩ = false ∧ w.frozen? ⟨b, off + k * 2 + 1, none⟩ = false ∧
      ∃ Hs', SlR E 2 (.slice ao n cap) n ((xs.set (k * 2) x).set (k * 2 + 1) y) Hs' ∧ Has S ((w.setCell ⟨b, off + k * 2, none⟩ x).setCell ⟨b, off + k * 2 + 1, none⟩ y) (Hs' ++ F) := by
  have hl := hv.1
  obtain ⟨b, off, cap', he, hc, hr, hst⟩ := hv.at (by omega)
  simp only [Value.slice.injEq] at he
  obtain ⟨rfl, _, rfl⟩ := he
  obtain ⟨hfz, hset⟩ := hst S w F hw
  obtain ⟨Hs1, hv1, hw1⟩ := hset (k * 2) x (by omega)
  obtain ⟨b2, off2, cap2, he, hc2, hr2, hst2⟩ := hv1.at (by omega)
  simp only [Value.slice.injEq, Option.some.injEq, Addr.mk.injEq] at he
  obtain ⟨⟨rfl, rfl, _⟩, _, rfl⟩ := he
  obtain ⟨hfz2, hset2⟩ := hst2 S _ F hw1
  obtain ⟨Hs2, hv2, hw2⟩ := hset2 (k * 2 + 1) y (by omega)
  have hm : ∀ p, p ∈ Hs → p ∈ Hs ++ F := fun p hp => List.mem_append_left _ hp
  exact ⟨b, off, _, _, rfl, (hr.mono hm).cell hw (List.getElem?_eq_getElem (by omega)), by rw [Nat.add_assoc]; exact (hr.mono hm).cell hw (List.getElem?_eq_getElem (by omega)), hfz _, hfz _, Hs2, hv2, by rw [Nat.add_assoc]; exact hw2⟩






















theorem eql_sp (w : World) (a b c d : Int) : (binOp .eql 41 (.agg #[.int .i64 a, .int .i64 b]) (.agg #[.int .i64 c, .int .i64 d])).run Tryz.prog w = .ok (.bool (a == c && b == d)) w := by
  have u3 := Tryz.underlying3
  have a3 := Tryz.isAgg3
  have z3 := Tryz.sizeOf3
  have hS : Tryz.prog.underlying 41 = some (.struct (Tryz.prog.fieldsOf 41)) := by kernel_rfl
  have hp : Tryz.prog.stoodInHeld 41 = false := by kernel_rfl
  simp only [binOp]
  simp only [Op.equal, Op.maxDepth, Sem.run_bind]
  rw [show (10000 : Nat) = 9999 + 1 from rfl, run_equalIn_agg w 9999 41 _ _ hS hp]
  simp only [Program.fieldsOf, Tryz.underlying41]
  go_simp
  by_cases h1 : a = c <;> by_cases h2 : b = d <;> simp [h1, h2]

/-- own's block holds the spans, and the mark behind them. -/
theorem OwnE.row {H : Hp} {b : Nat} {c : Array Value} {la : List Sp} (hm : (b, Obj.cells c 41 (0, 0)) ∈ H) (h : OwnE la c) : SlIn H 2 (.slice (some ⟨b, 0, none⟩) la.length (la.length + 1)) la.length (spc la) ∧
    c[la.length * 2]? = some (.int .i64 7) ∧ c[la.length * 2 + 1]? = some (.int .i64 77) := by
  have hl := spc_length la
  refine ⟨⟨hl, _, _, rfl, by omega, fun _ => ⟨b, 0, rfl, c, _, _, hm, fun j v hj => ?_⟩⟩, ?_, ?_⟩
  · have hlt := (List.getElem?_eq_some_iff.1 hj).1
    rw [Nat.zero_add, ← Array.getElem?_toList, h, List.getElem?_append_left hlt]
    exact hj
  · rw [← Array.getElem?_toList, h, List.getElem?_append_right (by omega)]
    simp [hl]
  · rw [← Array.getElem?_toList, h, List.getElem?_append_right (by omega)]
    simp [hl]


















end Go.Proofs.YtifeapnhemolgaaGreatDoor.Wk
