/- A loop over an iterator, in our words: what a round keeps; the whole of a world as a list of blocks. -/
import Derived.Test.YtifeapnhemolgaaGreatDoorRi
import Derived.RangeFuncNested
import Derived.RangeFuncBound
import Derived.RangeFuncCalls
import Derived.RangeFuncLeaves
import Derived.OwnWalkIn
import Derived.TacticsInMore
import Derived.LoopNIn
import Derived.LoopIn
namespace Go.Proofs.YtifeapnhemolgaaGreatDoor.HL
open Go Go.RowKit

/-- All blocks of a world. -/
def Hall (W : World) : Hp := (List.range W.heap.size).filterMap fun b => (W.heap[b]?).map fun o => (b, o)

theorem mem_Hall {W : World} {p : Nat × Obj} : p ∈ Hall W ↔ W.heap[p.1]? = some p.2 := by
  obtain ⟨b, o⟩ := p
  unfold Hall
  simp only [List.mem_filterMap, List.mem_range, Option.map_eq_some_iff, Prod.mk.injEq]
  constructor
  · rintro ⟨a, _, o', h, rfl, rfl⟩; exact h
  · intro h; exact ⟨b, (Array.getElem?_eq_some_iff.1 h).1, o, h, rfl, rfl⟩

theorem Has.all (W : World) : Has W W (Hall W) := by
  refine ⟨rfl, rfl, rfl, Nat.le_refl _, ?_, fun p hp => mem_Hall.1 hp⟩
  have h : ((Hall W).map Prod.fst).Sublist (List.range W.heap.size) := by
    unfold Hall
    rw [List.map_filterMap]
    have : ∀ (l : List Nat), (l.filterMap fun b => Option.map Prod.fst ((W.heap[b]?).map fun o => (b, o))).Sublist l := fun l => by
      induction l with
      | nil => simp
      | cons b l ih =>
        rw [List.filterMap_cons]
        cases hb : W.heap[b]? with
        | none => simpa [hb] using ih.cons b
        | some o => simpa [hb] using ih.cons_cons b
    exact this _
  exact List.nodup_range.sublist h

theorem Has.mem_all {S W : World} {H : Hp} (h : Has S W H) : ∀ p, p ∈ H → p ∈ Hall W := fun p hp => mem_Hall.2 (h.get p hp)

theorem Has.below_of_all {W w : World} {H : Hp} (h : Has W w (H ++ Hall W)) : Below W.heap.size W w :=
  ⟨h.os, h.tape, h.out, h.size, fun k hk => by
    have h1 : W.heap[k]? = some W.heap[k] := Array.getElem?_eq_getElem hk
    exact (h.right.get (k, W.heap[k]) (mem_Hall.2 h1)).trans h1.symm⟩

theorem grown_of_below {W w : World} (h : Below W.heap.size W w) : W.grownBy w none :=
  ⟨h.os, h.tape, h.output, h.size, fun k hk _ => h.block k hk⟩

/-- The block that the variable in box Bo owns. -/
def ownB (Bo : Nat) (W : World) : Option Nat := (W.cell? ⟨Bo, 0, none⟩).bind Value.ownBlock

/-- What a round keeps: all that lay below B, and all cells, but for the variable in box Bo and what it owns. -/
structure KeepB (B Bo : Nat) (W W' : World) : Prop where
  os : W'.os = W.os
  tape : W'.tape = W.tape
  out : W'.output = W.output
  size : W.heap.size ≤ W'.heap.size
  keep : ∀ k o, W.heap[k]? = some o → (k < B ∨ o.isCells = true) → k ≠ Bo → some k ≠ ownB Bo W → W'.heap[k]? = some o
  own : ownB Bo W' = ownB Bo W ∨ ∃ g, ownB Bo W' = some g ∧ W.heap.size ≤ g ∧ g < W'.heap.size

theorem KeepB.t {B Bo : Nat} {X Y Z : World} (h : KeepB B Bo X Y) (k : KeepB B Bo Y Z) : KeepB B Bo X Z := by
  refine ⟨k.os.trans h.os, k.tape.trans h.tape, k.out.trans h.out, Nat.le_trans h.size k.size, fun i o hi hB hn ho => ?_, ?_⟩
  · have h1 := h.keep i o hi hB hn ho
    refine k.keep i o h1 hB hn fun e => ?_
    rcases h.own with e1 | ⟨g, e1, hg, _⟩
    · exact ho (by rw [← e1]; exact e)
    · rw [e1] at e
      have := (Array.getElem?_eq_some_iff.1 hi).1
      cases e; omega
  · rcases k.own with e1 | ⟨g, e1, hg, hl⟩
    · rw [e1]
      rcases h.own with e2 | ⟨g, e2, hg, hl⟩
      · exact .inl e2
      · exact .inr ⟨g, e2, hg, Nat.lt_of_lt_of_le hl k.size⟩
    · exact .inr ⟨g, e1, Nat.le_trans h.size hg, hl⟩

theorem KeepB.b {B Bo : Nat} (hB : Bo < B) (W : World) (l : Nat) (o o' : Obj) (hl : B ≤ l) (h : W.heap[l]? = some o) (hc : o.isCells = false) (_ : o.isWalk = false) : KeepB B Bo W (W.putObj l o') := by
  refine ⟨rfl, rfl, rfl, by simp [World.putObj], fun k u hk hB' hn ho => ?_, .inl ?_⟩
  · rw [World.putObj_heap_other (by rintro rfl; rw [h] at hk; cases hk; rcases hB' with h1 | h1 <;> simp_all <;> omega)]; exact hk
  · unfold ownB World.cell?
    simp only
    rw [World.putObj_heap_other (by omega)]

/-- What one holds lies as it lay behind a round. -/
theorem KeepB.has {B Bo : Nat} {S W W' : World} {H : Hp} (h : KeepB B Bo W W') (hw : Has S W H) (hc : ∀ p, p ∈ H → (p.1 < B ∨ p.2.isCells = true) ∧ p.1 ≠ Bo ∧ some p.1 ≠ ownB Bo W) :
    Has S W' H ∧ ∀ p, p ∈ H → some p.1 ≠ ownB Bo W' := by
  refine ⟨⟨h.os.trans hw.os, h.tape.trans hw.tape, h.out.trans hw.out, Nat.le_trans hw.size h.size, hw.nd, fun p hp => ?_⟩, fun p hp => ?_⟩
  · exact h.keep _ _ (hw.get p hp) (hc p hp).1 (hc p hp).2.1 (hc p hp).2.2
  · rcases h.own with e1 | ⟨g, e1, hg, _⟩
    · rw [e1]; exact (hc p hp).2.2
    · rw [e1]
      intro e
      cases e
      have := hw.lt (b := p.1) (o := p.2) hp
      omega

/-- The variable's own block, if it has one, lies in the heap. -/
def OwnLt (Bo : Nat) (W : World) : Prop := ∀ g, ownB Bo W = some g → g < W.heap.size

theorem KeepB.lt {B Bo : Nat} {W W' : World} (h : KeepB B Bo W W') (hl : OwnLt Bo W) : OwnLt Bo W' := fun g hg => by
  rcases h.own with e1 | ⟨g', e1, _, hl'⟩
  · exact Nat.lt_of_lt_of_le (hl g (e1 ▸ hg)) h.size
  · rw [e1] at hg; cases hg; exact hl'

theorem ownB_below {Bo : Nat} {W w : World} (h : Below W.heap.size W w) (hl : Bo < W.heap.size) : ownB Bo w = ownB Bo W := by
  unfold ownB
  rw [h.cell (p := ⟨Bo, 0, none⟩) hl]

theorem OwnLt.below {Bo : Nat} {W w : World} (h : OwnLt Bo W) (hb : Below W.heap.size W w) (hl : Bo < W.heap.size) : OwnLt Bo w := fun g hg => by
  rw [ownB_below hb hl] at hg
  exact Nat.lt_of_lt_of_le (h g hg) hb.size

theorem ownB_drew (Bo : Nat) (W : World) : ownB Bo W.drew = ownB Bo W := rfl

/-- The block of a slice of one's own: cells, and none of an older world. -/
theorem SlR.fresh {E : TypeId} {sz n : Nat} {v : Value} {xs : List Value} {Hs : Hp} {W w : World} (h : SlR E sz v n xs Hs) (hw : Has W w (Hs ++ Hall W)) : ∀ p, p ∈ Hs → p.2.isCells = true ∧ W.heap.size ≤ p.1 := by
  obtain ⟨_, ⟨_, _, rfl⟩ | ⟨b, off, cap, c, _, _, _, rfl, _⟩⟩ := h
  · simp
  · intro p hp
    simp only [List.mem_singleton] at hp
    subst hp
    refine ⟨rfl, ?_⟩
    rcases Nat.lt_or_ge b W.heap.size with hl | hg
    · have h1 : W.heap[b]? = some W.heap[b] := Array.getElem?_eq_getElem hl
      have hn := hw.nd
      simp only [List.singleton_append, List.map_cons, List.nodup_cons] at hn
      exact (hn.1 (List.mem_map.2 ⟨(b, W.heap[b]), mem_Hall.2 h1, rfl⟩)).elim
    · exact hg

end Go.Proofs.YtifeapnhemolgaaGreatDoor.HL
