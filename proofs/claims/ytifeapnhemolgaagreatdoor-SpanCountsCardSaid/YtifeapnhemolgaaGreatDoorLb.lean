/- Slices of spans are opened. -/
import Derived.Test.YtifeapnhemolgaaGreatDoorLa
import Derived.Test.YtifeapnhemolgaaGreatDoorWa
namespace Go.Proofs.YtifeapnhemolgaaGreatDoor.Wk
open Go Go.RowKit Go.ChangeShapes Go.WideShapes Go.Deep Go.Proofs.YtifeapnhemolgaaGreatDoor.HL Go.Proofs.YtifeapnhemolgaaGreatDoor.Pl

theorem lawOwn : ownKnob Tryz.prog.godebug = none := by kernel_rfl
theorem lawLaid : laidOutB Tryz.prog = true := by kernel_rfl

theorem spanFields : ∃ f0 f1 : Field, Tryz.prog.underlying 41 = some (.struct #[f0, f1]) ∧ f0.type = 3 ∧ f1.type = 3 ∧ oneCellFields Tryz.prog #[f0, f1] = true ∧ Tryz.prog.cellsOf 41 = 2 :=
  ⟨_, _, Tryz.underlying41, rfl, rfl, by kernel_rfl, by kernel_rfl⟩

theorem spanCells (f : Nat → Value) (n : Nat) (h : ∀ i, i < n → ∃ x y : Int, f (i * 2) = .int .i64 x ∧ f (i * 2 + 1) = .int .i64 y) : ∃ l : List Sp, l.length = n ∧ ∀ j u, (spc l)[j]? = some u → f j = u := by
  induction n with
  | zero => exact ⟨[], rfl, fun j u hj => by simp [spc] at hj⟩
  | succ n ih =>
    obtain ⟨l, hl, hc⟩ := ih fun i hi => h i (by omega)
    obtain ⟨x, y, hx, hy⟩ := h n (by omega)
    have hlen := spc_length l
    refine ⟨l ++ [⟨x, y⟩], by simp [hl], fun j u hj => ?_⟩
    have e : spc (l ++ [⟨x, y⟩]) = spc l ++ [.int .i64 x, .int .i64 y] := by simp [spc]
    rw [e] at hj
    by_cases h1 : j < (spc l).length
    · rw [List.getElem?_append_left h1] at hj
      exact hc j u hj
    · rw [List.getElem?_append_right (by omega)] at hj
      rw [hlen, hl] at h1 hj
      obtain h2 | h2 | h2 : j - n * 2 = 0 ∨ j - n * 2 = 1 ∨ 2 ≤ j - n * 2 := by omega
      · rw [h2] at hj
        simp at hj
        rw [← hj, show j = n * 2 by omega]; exact hx
      · rw [h2] at hj
        simp at hj
        rw [← hj, show j = n * 2 + 1 by omega]; exact hy
      · rw [List.getElem?_eq_none (by simpa using h2)] at hj
        cases hj

set_option maxRecDepth 100000 in
theorem open_spans {H : Type} {enc : TypeId × Value → H} {W : World} {base : Nat} {v : Value} {d : DataW H} {p : List MemPlace} (hv : Value.okWide Tryz.prog W .any base 22 v)
    (h : DataW.Trod enc Tryz.prog W 0 (fun _ => true) true 22 v d p) : ∃ l : List Sp, SlIn (Hall W) 2 v l.length (spc l) ∧ l.length ≤ maxLen := by
  obtain ⟨a0, len, cap, rfl⟩ := okWide_slice Tryz.underlying22 hv
  obtain ⟨fuel, hf⟩ := h
  obtain ⟨f0, f1, hs, hf0, hf1, hone, hC⟩ := spanFields
  rcases open_slice_fields Tryz.underlying22 hs hone hC hf with ⟨hcs, hx⟩ | ⟨a, len', cap', m, D, Pl, hcs, _, hl, hm, hmm, hx, hi⟩
  · simp [Value.cells] at hcs
    obtain ⟨rfl, rfl, rfl⟩ := hcs
    exact ⟨[], SlIn.nil _ _, by simp⟩
  · simp [Value.cells] at hcs
    obtain ⟨rfl, rfl, rfl⟩ := hcs
    simp only [if_true] at hmm
    subst hmm
    have hcell : ∀ i, i < len → ∃ x y : Int, W.cell? (a.add (i * 2)) = some (.int .i64 x) ∧ W.cell? (a.add (i * 2 + 1)) = some (.int .i64 y) := fun i hil => by
      obtain ⟨ys, n, _, _, _, hj⟩ := hi i (by omega)
      obtain ⟨v0, y0, c0, _, t0⟩ := hj 0 f0 rfl
      obtain ⟨v1, y1, c1, _, t1⟩ := hj 1 f1 rfl
      rw [hf0] at t0
      rw [hf1] at t1
      obtain ⟨x, e0, _⟩ := DataW.trod_int Tryz.underlying3 t0
      obtain ⟨y, e1, _⟩ := DataW.trod_int Tryz.underlying3 t1
      simp only [List.cons.injEq, and_true] at e0 e1
      subst e0
      subst e1
      exact ⟨x, y, c0, c1⟩
    obtain ⟨l, hll, hlc⟩ := spanCells (fun j => (W.cell? (a.add j)).getD undef) len (fun i hil => by
      obtain ⟨x, y, h1, h2⟩ := hcell i hil
      exact ⟨x, y, by simp [h1], by simp [h2]⟩)
    refine ⟨l, ⟨spc_length l, some a, _, by rw [hll], by omega, fun h0 => ?_⟩, by omega⟩
    obtain ⟨x, y, h1, _⟩ := hcell 0 (by omega)
    have hadd0 : a.add (0 * 2) = a := by simp [Addr.add]
    rw [hadd0] at h1
    obtain ⟨b, off, sp⟩ := a
    have hsp : sp = none := by
      unfold World.cell? at h1
      split at h1
      · cases sp with
        | none => rfl
        | some s => simp at h1
      · cases h1
    subst hsp
    unfold World.cell? at h1
    cases hb : W.heap[b]? with
    | none => simp [hb] at h1
    | some o =>
      simp only [hb] at h1
      cases o with
      | cells c E fz =>
        refine ⟨b, off, rfl, c, E, fz, mem_Hall.2 hb, fun j u hj => ?_⟩
        have h3 := hlc j u hj
        have hjl := (List.getElem?_eq_some_iff.1 hj).1
        rw [spc_length, hll] at hjl
        have hsome : ∃ u', W.cell? ((⟨b, off, none⟩ : Addr).add j) = some u' := by
          obtain ⟨x', y', g1, g2⟩ := hcell (j / 2) (by omega)
          rcases Nat.mod_two_eq_zero_or_one j with hmo | hmo
          · exact ⟨_, by rw [show j = j / 2 * 2 by omega]; exact g1⟩
          · exact ⟨_, by rw [show j = j / 2 * 2 + 1 by omega]; exact g2⟩
        obtain ⟨u', hu'⟩ := hsome
        simp only [hu', Option.getD_some] at h3
        subst h3
        have hadd : (⟨b, off, none⟩ : Addr).add j = ⟨b, off + j, none⟩ := by unfold Addr.add; split <;> simp_all
        rw [hadd, cell_of_row W b _ c E fz hb] at hu'
        exact hu'
      | _ => simp at h1

theorem shut_true {H : Type} {enc : TypeId × Value → H} {W' : World} {b : Nat} {sp : Nat → Bool} {hd : Bool} (c : Bool) : DataW.Trod enc Tryz.prog W' b sp hd 4 (.bool c) (.lit (.bool c)) [] :=
  ⟨1, by simp [DataW.trod, Tryz.underlying4, Value.cells]⟩

theorem ok_bool {W' : World} (c : Bool) : Value.okWide Tryz.prog W' .any 0 4 (.bool c) := by
  simp [Value.okWide, Tryz.underlying4, Cell.okWide, Cell.ok]

end Go.Proofs.YtifeapnhemolgaaGreatDoor.Wk
