/- The library's sorting, over slices of one's own: from the kit's words on rows to ours. -/
import Derived.Test.YtifeapnhemolgaaGreatDoorHl
import Derived.Sort.Row
import Derived.Sort.Grow
import Derived.Shelf.GgSortFunc.RowK
import Derived.Shelf.GgSortFunc.InsertionK
namespace Go.Proofs.YtifeapnhemolgaaGreatDoor.HL
open Go Go.RowKit Go.Sort

theorem Has.putRow {α : Type} [Inhabited α] {S w : World} {H : Hp} {b : Nat} {c : Array Value} {E : TypeId} (h : Has S w ((b, .cells c E (0, 0)) :: H)) (enc : α → Value) (off k : Nat) (d : Array α) (os : Array Obj) :
    Has S (grow (Sort.putRow enc (Sort.ahead w k) b off d) os) ((b, .cells (putCells enc off d c) E (0, 0)) :: H) := by
  have hb := h.obj List.mem_cons_self
  have hlt := h.lt (b := b) (o := .cells c E (0, 0)) List.mem_cons_self
  refine Has.turn h rfl rfl rfl ?_ ?_ (fun j hj hne => ?_)
  · show w.heap.size ≤ ((w.heap.modify b _) ++ os).size
    simp
  · show ((w.heap.modify b (onCells (putCells enc off d))) ++ os)[b]? = _
    rw [Array.getElem?_append_left (by simpa using hlt), Array.getElem?_modify]
    simp [hb, onCells]
  · show ((w.heap.modify b (onCells (putCells enc off d))) ++ os)[j]? = _
    rw [Array.getElem?_append_left (by simpa using hj), Array.getElem?_modify]
    simp [Ne.symm hne]

theorem putCells_get {α : Type} [Inhabited α] {enc : α → Value} {off : Nat} {d : Array α} {c : Array Value} {j : Nat} (hj : j < d.size) (hc : off + j < c.size) : (putCells enc off d c)[off + j]? = some (enc d[j]!) := by
  unfold putCells
  simp [hc, hj]

theorem putCells_size {α : Type} [Inhabited α] {enc : α → Value} {off : Nat} {d : Array α} {c : Array Value} : (putCells enc off d c).size = c.size := by simp [putCells]

/-- A slice of one's own as a row: what it holds; and what it is behind a callee that writes the row. -/
theorem SlR.row {α : Type} [Inhabited α] {S w : World} {E : TypeId} {n : Nat} {v : Value} {Hs F : Hp} {enc : α → Value} {zs : List α} (hv : SlR E 1 v n (zs.map enc) Hs) (hw : Has S w (Hs ++ F)) (h0 : 0 < n) :
    ∃ b off cap, v = .slice (some ⟨b, off, none⟩) n cap ∧ n ≤ cap ∧ b < w.heap.size ∧ zs.length = n ∧ Holds enc w b off zs.toArray ∧ ∀ k os (ys : List α), ys.length = n →
      ∃ Hs', Has S (grow (Sort.putRow enc (Sort.ahead w k) b off ys.toArray) os) (Hs' ++ F) ∧ ∀ m, m ≤ n → SlR E 1 (.slice (some ⟨b, off, none⟩) m cap) m ((ys.take m).map enc) Hs' := by
  obtain ⟨hl, ⟨_, hn0, _⟩ | ⟨b, off, cap, c, hv, hnc, hm, rfl, hc, hx⟩⟩ := hv
  · omega
  · have hl' : zs.length = n := by simpa using hl
    have hlt := hw.lt (b := b) (o := .cells c E (0, 0)) (by simp)
    refine ⟨b, off, cap, hv, hnc, hlt, hl', fun j hj => ?_, fun k os ys hy => ⟨_, Has.putRow hw enc off k ys.toArray os, fun m hm' => ⟨by simp; omega, .inr ⟨b, off, cap, _, rfl, by omega, hm, rfl, ?_, fun j hj => ?_⟩⟩⟩⟩
    · simp only [List.size_toArray] at hj
      refine ⟨?_, hw.frozen (c := c) (E := E) (by simp) _⟩
      rw [cell_of_row w b _ c E (0, 0) (hw.obj (by simp)), hx j (by omega)]
      simp [hj]
    · rw [putCells_size]; exact hc
    · rw [Nat.mul_one] at hj
      rw [putCells_get (by simp; omega) (by omega)]
      simp [List.getElem?_map, hj]
      rw [List.getElem?_eq_getElem (by omega)]
      simp

/-- The same, elements of k cells. -/
theorem SlR.rowK {α : Type} [Inhabited α] {S w : World} {E : TypeId} {n sz : Nat} {v : Value} {Hs F : Hp} {enc : α → List Value} (hk : ∀ x, (enc x).length = sz) (hsz : 0 < sz) {zs : List α} (hv : SlR E sz v n (zs.flatMap enc) Hs) (hw : Has S w (Hs ++ F)) (h0 : 0 < n) (hzn : zs.length = n) :
    ∃ b off cap, v = .slice (some ⟨b, off, none⟩) n cap ∧ n ≤ cap ∧ b < w.heap.size ∧ HoldsK enc sz w b off zs.toArray ∧ ∀ k os (ys : List α), ys.length = n →
      ∃ Hs', Has S (sortWorldK enc sz w b off k ys.toArray os) (Hs' ++ F) ∧ SlR E sz (.slice (some ⟨b, off, none⟩) n cap) n (ys.flatMap enc) Hs' := by
  have hlen : ∀ (ys : List α), (ys.flatMap enc).length = ys.length * sz := fun ys => by
    induction ys with
    | nil => simp
    | cons y ys ih => simp [ih, hk, Nat.add_mul, Nat.add_comm]
  have hflat : ∀ (ys : List α), flatK enc sz ys.toArray = (ys.flatMap enc).toArray := fun ys => by
    refine ext_get! (by simp [hlen]) fun t ht => ?_
    have ht' : t < ys.length * sz := by simpa using ht
    rw [get_flatK _ _ _ _ (by simpa using ht')]
    have : ∀ (ys : List α) (t : Nat), t < ys.length * sz → (ys.flatMap enc)[t]? = (enc (ys.toArray[t / sz]!))[t % sz]? := fun ys => by
      induction ys with
      | nil => intro t ht; simp at ht
      | cons y ys ih =>
        intro t ht
        rw [List.flatMap_cons]
        by_cases h : t < sz
        · rw [List.getElem?_append_left (by rw [hk]; exact h), Nat.div_eq_of_lt h, Nat.mod_eq_of_lt h]
          simp
        · have e : t = (t - sz) + sz := by omega
          rw [List.getElem?_append_right (by rw [hk]; omega), hk]
          rw [List.length_cons, Nat.add_mul, Nat.one_mul] at ht
          rw [ih (t - sz) (by omega)]
          have e1 : t / sz = (t - sz) / sz + 1 := by conv => lhs; rw [e, Nat.add_div_right _ hsz]
          have e2 : t % sz = (t - sz) % sz := by conv => lhs; rw [e, Nat.add_mod_right]
          rw [e1, e2]
          simp
    have h1 := this ys t ht'
    have hm : t % sz < sz := Nat.mod_lt _ hsz
    have h2 : t % sz < (enc (ys.toArray[t / sz]!)).length := by rw [hk]; exact hm
    have h3 : t < (ys.flatMap enc).length := by rw [hlen]; exact ht'
    rw [List.getElem?_eq_getElem h2, List.getElem?_eq_getElem h3] at h1
    have h4 := Option.some.inj h1
    rw [getElem!_pos (enc ys.toArray[t / sz]!) (t % sz) h2, getElem!_pos (ys.flatMap enc).toArray t (by simpa using h3), ← h4]
    simp
  obtain ⟨hl, ⟨_, hn0, _⟩ | ⟨b, off, cap, c, hv, hnc, hm, rfl, hc, hx⟩⟩ := hv
  · omega
  · have hlt := hw.lt (b := b) (o := .cells c E (0, 0)) (by simp)
    have hcap : n * sz ≤ cap * sz := Nat.mul_le_mul_right _ hnc
    refine ⟨b, off, cap, hv, hnc, hlt, fun j hj => ?_, fun k os ys hy => ⟨[(b, .cells (putCells id off (flatK enc sz ys.toArray) c) E (0, 0))], Has.putRow hw id off k (flatK enc sz ys.toArray) os, ⟨by rw [hlen, hy], .inr ⟨b, off, cap, _, rfl, hnc, hm, rfl, ?_, fun j hj => ?_⟩⟩⟩⟩
    · rw [hflat] at hj ⊢
      have hj' : j < (zs.flatMap enc).length := by simpa using hj
      refine ⟨?_, hw.frozen (c := c) (E := E) (by simp) _⟩
      rw [cell_of_row w b _ c E (0, 0) (hw.obj (by simp)), hx j (by omega), List.getElem?_eq_getElem hj', getElem!_pos (zs.flatMap enc).toArray j hj]
      simp
    · rw [putCells_size]; exact hc
    · have hj2 : j < (ys.flatMap enc).length := by rw [hlen, hy]; exact hj
      rw [hflat, putCells_get (by simpa using hj2) (by omega), List.getElem?_eq_getElem hj2, getElem!_pos (ys.flatMap enc).toArray j (by simpa using hj2)]
      simp

end Go.Proofs.YtifeapnhemolgaaGreatDoor.HL
