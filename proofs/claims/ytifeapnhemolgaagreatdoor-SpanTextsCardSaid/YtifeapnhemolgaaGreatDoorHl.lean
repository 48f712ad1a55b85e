/- Worlds as lists of blocks: which blocks a world holds, and what loads, stores, new blocks and appends make of them. -/
import Derived.WalkKit
import Derived.Deep.Draws
namespace Go.Proofs.YtifeapnhemolgaaGreatDoor.HL
open Go Go.RowKit

/-- A part of memory: blocks by number. -/
abbrev Hp := List (Nat × Obj)

/-- The world w holds the blocks of H, each once; the rest of the world but its draws is as in S. -/
structure Has (S w : World) (H : Hp) : Prop where
  os : w.os = S.os
  tape : w.tape = S.tape
  out : w.output = S.output
  size : S.heap.size ≤ w.heap.size
  nd : (H.map Prod.fst).Nodup
  get : ∀ p, p ∈ H → w.heap[p.1]? = some p.2

theorem Has.lt {S w : World} {H : Hp} (h : Has S w H) {b : Nat} {o : Obj} (hm : (b, o) ∈ H) : b < w.heap.size :=
  (Array.getElem?_eq_some_iff.1 (h.get _ hm)).1

theorem Has.perm {S w : World} {H H' : Hp} (h : Has S w H) (hp : H.Perm H') : Has S w H' :=
  ⟨h.os, h.tape, h.out, h.size, (hp.map _).nodup_iff.1 h.nd, fun p hm => h.get p (hp.mem_iff.2 hm)⟩

theorem Has.sub {S w : World} {H H' : Hp} (h : Has S w H) (hs : H'.Sublist H) : Has S w H' :=
  ⟨h.os, h.tape, h.out, h.size, h.nd.sublist (hs.map _), fun p hm => h.get p (hs.subset hm)⟩

theorem Has.right {S w : World} {A B : Hp} (h : Has S w (A ++ B)) : Has S w B := h.sub (List.sublist_append_right _ _)
theorem Has.left {S w : World} {A B : Hp} (h : Has S w (A ++ B)) : Has S w A := h.sub (List.sublist_append_left _ _)
theorem Has.tail {S w : World} {p : Nat × Obj} {B : Hp} (h : Has S w (p :: B)) : Has S w B := h.sub (List.sublist_cons_self _ _)

theorem Has.drew {S w : World} {H : Hp} (h : Has S w H) : Has S w.drew H := ⟨h.os, h.tape, h.out, h.size, h.nd, h.get⟩
theorem Has.drewN {S w : World} {H : Hp} (h : Has S w H) (n : Nat) : Has S (w.drewN n) H := ⟨h.os, h.tape, h.out, h.size, h.nd, h.get⟩

theorem Has.ne_size {S w : World} {H : Hp} (h : Has S w H) : ∀ p, p ∈ H → p.1 ≠ w.heap.size := fun p hm e => by
  have := h.lt (b := p.1) (o := p.2) hm; omega

theorem Has.alloc {S w : World} {H : Hp} (h : Has S w H) (o : Obj) : Has S (w.alloc o) ((w.heap.size, o) :: H) := by
  refine ⟨h.os, h.tape, h.out, by simp; have := h.size; omega, ?_, ?_⟩
  · simp only [List.map_cons, List.nodup_cons]
    refine ⟨fun hm => ?_, h.nd⟩
    obtain ⟨p, hp, e⟩ := List.mem_map.1 hm
    exact h.ne_size p hp e
  · intro p hm
    rcases List.mem_cons.1 hm with rfl | hm
    · exact heap_alloc_new w o
    · rw [Below.heap_alloc w o p.1 (h.lt (b := p.1) (o := p.2) hm)]; exact h.get p hm

/-- A new block that nobody speaks of. -/
theorem Has.more {S w : World} {H : Hp} (h : Has S w H) (o : Obj) : Has S (w.alloc o) H := (h.alloc o).tail

theorem Has.cell {S w : World} {H : Hp} (h : Has S w H) {b : Nat} {c : Array Value} {E : TypeId} {fz : Nat × Nat} (hm : (b, .cells c E fz) ∈ H) {o : Nat} {v : Value}
    (hv : c[o]? = some v) : w.cell? ⟨b, o, none⟩ = some v := by
  rw [cell_of_row w b o c E fz (h.get _ hm)]; exact hv

theorem Has.frozen {S w : World} {H : Hp} (h : Has S w H) {b : Nat} {c : Array Value} {E : TypeId} (hm : (b, .cells c E (0, 0)) ∈ H) (o : Nat) : w.frozen? ⟨b, o, none⟩ = false :=
  frozen_of_row w b o c E (h.get _ hm)

theorem Has.obj {S w : World} {H : Hp} (h : Has S w H) {b : Nat} {o : Obj} (hm : (b, o) ∈ H) : w.heap[b]? = some o := h.get _ hm

/-- One block is turned. -/
theorem Has.turn {S w w' : World} {H : Hp} {b : Nat} {o o' : Obj} (h : Has S w ((b, o) :: H)) (os : w'.os = w.os) (tape : w'.tape = w.tape) (out : w'.output = w.output)
    (size : w.heap.size ≤ w'.heap.size) (hb : w'.heap[b]? = some o') (hr : ∀ k, k < w.heap.size → k ≠ b → w'.heap[k]? = w.heap[k]?) : Has S w' ((b, o') :: H) := by
  refine ⟨os.trans h.os, tape.trans h.tape, out.trans h.out, Nat.le_trans h.size size, h.nd, ?_⟩
  intro p hm
  rcases List.mem_cons.1 hm with rfl | hm
  · exact hb
  · have hl := h.lt (b := p.1) (o := p.2) (List.mem_cons_of_mem _ hm)
    rw [hr p.1 hl ?_]
    · exact h.get p (List.mem_cons_of_mem _ hm)
    · intro e
      have hn := h.nd
      simp only [List.map_cons, List.nodup_cons] at hn
      exact hn.1 (List.mem_map.2 ⟨p, hm, e⟩)

theorem Has.setCell {S w : World} {H : Hp} {b : Nat} {c : Array Value} {E : TypeId} (h : Has S w ((b, .cells c E (0, 0)) :: H)) {o : Nat} (v : Value) :
    Has S (w.setCell ⟨b, o, none⟩ v) ((b, .cells (c.setIfInBounds o v) E (0, 0)) :: H) := by
  have hb := h.obj List.mem_cons_self
  refine h.turn rfl rfl rfl (by simp [World.setCell]) ?_ (fun k _ hk => Below.heap_setCell w _ _ k hk)
  show (w.heap.modify b _)[b]? = _
  rw [Array.getElem?_modify]
  simp [hb]

/-- Blocks of a call's own: the law of 'grownBy' where the row that may have been written is not among ours. -/
theorem Has.grown {S w w' : World} {H : Hp} {row : Option Nat} (h : Has S w H) (hg : w.grownBy w' row) (hr : ∀ p, p ∈ H → some p.1 ≠ row) : Has S w' H :=
  ⟨hg.os.trans h.os, hg.tape.trans h.tape, hg.output.trans h.out, Nat.le_trans h.size hg.size, h.nd, fun p hm => (hg.block p.1 (h.lt (b := p.1) (o := p.2) hm) (hr p hm)).trans (h.get p hm)⟩

theorem bdrewN {B : Nat} {a w : World} (h : Below B a w) (n : Nat) : Below B a (w.drewN n) := h.trans ⟨rfl, rfl, rfl, Nat.le_refl _, fun _ _ => rfl⟩

/-- What lay below is as it was: of another world of the same streams. -/
theorem Has.below {S w w' : World} {H : Hp} (h : Has S w H) (hb : Below w.heap.size w w') : Has S w' H :=
  ⟨hb.os.trans h.os, hb.tape.trans h.tape, hb.output.trans h.out, Nat.le_trans h.size hb.size, h.nd, fun p hm => (hb.block p.1 (h.lt (b := p.1) (o := p.2) hm)).trans (h.get p hm)⟩

theorem new_cell (w : World) (c : Array Value) (t : TypeId) (i : Nat) {v : Value} (h : c[i]? = some v) : (w.alloc (.cells c t)).cell? ⟨w.heap.size, i, none⟩ = some v := by
  rw [World.cell?_alloc_new]; exact h

/-! ### Slices that are read -/

/-- In H the cells from b, off on are xs. -/
def RowAt (H : Hp) (b off : Nat) (xs : List Value) : Prop :=
  ∃ c E fz, (b, Obj.cells c E fz) ∈ H ∧ ∀ j v, xs[j]? = some v → c[off + j]? = some v

theorem RowAt.mono {H H' : Hp} {b off : Nat} {xs : List Value} (h : RowAt H b off xs) (hs : ∀ p, p ∈ H → p ∈ H') : RowAt H' b off xs := by
  obtain ⟨c, E, fz, hm, hc⟩ := h
  exact ⟨c, E, fz, hs _ hm, hc⟩

theorem RowAt.cell {S w : World} {H : Hp} {b off : Nat} {xs : List Value} (h : RowAt H b off xs) (hw : Has S w H) {j : Nat} {v : Value} (hj : xs[j]? = some v) :
    w.cell? ⟨b, off + j, none⟩ = some v := by
  obtain ⟨c, E, fz, hm, hc⟩ := h
  exact hw.cell hm (hc j v hj)

/-- In H the slice value v has n elements, each of sz cells, and their cells are xs. -/
def SlIn (H : Hp) (sz : Nat) (v : Value) (n : Nat) (xs : List Value) : Prop :=
  xs.length = n * sz ∧ ∃ ao cap, v = .slice ao n cap ∧ n ≤ cap ∧ (0 < n → ∃ b off, ao = some ⟨b, off, none⟩ ∧ RowAt H b off xs)

theorem SlIn.mono {H H' : Hp} {sz n : Nat} {v : Value} {xs : List Value} (h : SlIn H sz v n xs) (hs : ∀ p, p ∈ H → p ∈ H') : SlIn H' sz v n xs := by
  obtain ⟨hl, ao, cap, hv, hn, hr⟩ := h
  exact ⟨hl, ao, cap, hv, hn, fun h0 => let ⟨b, off, e, r⟩ := hr h0; ⟨b, off, e, r.mono hs⟩⟩

theorem SlIn.nil (H : Hp) (sz : Nat) : SlIn H sz (.slice none 0 0) 0 [] := ⟨by simp, none, 0, rfl, Nat.le_refl _, fun h => by omega⟩

/-! ### Slices of one's own -/

/-- The slice value v owns the block of Hs (none if it is nil): n elements of type E, each of sz cells; their cells are xs. -/
def SlR (E : TypeId) (sz : Nat) (v : Value) (n : Nat) (xs : List Value) (Hs : Hp) : Prop :=
  xs.length = n * sz ∧ ((v = .slice none 0 0 ∧ n = 0 ∧ Hs = []) ∨
    ∃ b off cap c, v = .slice (some ⟨b, off, none⟩) n cap ∧ n ≤ cap ∧ cap ≤ maxLen ∧ Hs = [(b, .cells c E (0, 0))] ∧ off + cap * sz ≤ c.size ∧
      ∀ j, j < n * sz → c[off + j]? = xs[j]?)

theorem SlR.nil (E : TypeId) (sz : Nat) : SlR E sz (.slice none 0 0) 0 [] [] := ⟨by simp, .inl ⟨rfl, rfl, rfl⟩⟩

theorem SlR.read {E : TypeId} {sz n : Nat} {v : Value} {xs : List Value} {Hs H : Hp} (h : SlR E sz v n xs Hs) (hs : ∀ p, p ∈ Hs → p ∈ H) : SlIn H sz v n xs := by
  obtain ⟨hl, ⟨hv, hn, _⟩ | ⟨b, off, cap, c, hv, hn, hm, rfl, hc, hx⟩⟩ := h
  · exact ⟨hl, none, 0, by rw [hv, hn], by omega, fun h => by omega⟩
  · refine ⟨hl, some ⟨b, off, none⟩, cap, hv, hn, fun _ => ⟨b, off, rfl, c, E, (0, 0), hs _ (by simp), fun j u hj => ?_⟩⟩
    have hlt := (List.getElem?_eq_some_iff.1 hj).1
    rw [hx j (by omega)]; exact hj

theorem SlR.made {E : TypeId} {sz b n : Nat} {c : Array Value} (hc : c.size = n * sz) (hm : n ≤ maxLen) :
    SlR E sz (.slice (some ⟨b, 0, none⟩) n n) n c.toList [(b, .cells c E (0, 0))] :=
  ⟨by simp [hc], .inr ⟨b, 0, n, c, rfl, Nat.le_refl _, hm, rfl, by omega, fun j _ => by simp⟩⟩

theorem SlR.made_empty {E : TypeId} {sz b cap : Nat} {c : Array Value} (hc : c.size = cap * sz) (hm : cap ≤ maxLen) :
    SlR E sz (.slice (some ⟨b, 0, none⟩) 0 cap) 0 [] [(b, .cells c E (0, 0))] :=
  ⟨by simp, .inr ⟨b, 0, cap, c, rfl, Nat.zero_le _, hm, rfl, by omega, fun j hj => by simp at hj⟩⟩

/-- What the kit's law of owned rows says, in our words: behind an append. -/
theorem SlR.of_owns {w : World} {base : Nat} {E : TypeId} {sz : Nat} {v : Value} {n : Nat} {xs : List Value} (h : w.ownsRow base E sz v n xs) :
    ∃ Hs, SlR E sz v n xs Hs ∧ (∀ p, p ∈ Hs → w.heap[p.1]? = some p.2) ∧ (∀ p, p ∈ Hs → v.ownBlock = some p.1) ∧ (Hs.map Prod.fst).Nodup := by
  obtain ⟨hl, ⟨rfl, rfl⟩ | ⟨g, cap, cur, rfl, hb, hg, hn, hm, hs, ht⟩⟩ := h
  · exact ⟨[], ⟨hl, .inl ⟨rfl, rfl, rfl⟩⟩, by simp, by simp, by simp⟩
  · refine ⟨[(g, .cells cur E (0, 0))], ⟨hl, .inr ⟨g, 0, cap, cur, rfl, hn, hm, rfl, by omega, fun j hj => ?_⟩⟩, by simpa using hg, by simp [Value.ownBlock], by simp⟩
    rw [← ht, List.getElem?_take, if_pos hj]
    simp

/-- 'append(s, x...)', s of one's own: there is room, and its block is written; or there is none, and a new block is made. -/
theorem run_append_own {P : Program} {S w : World} {t ty E : TypeId} {i : TypeInfo} {z : Value} {sz bytes : Nat} (ht : P.underlying t = some (.slice E)) (hi : P.info? E = some i) (hz : i.zero = some z)
    (hsize : i.size = sz) (hby : i.bytes = bytes) (hzs : z.cells.size = sz) (hsz : 0 < sz)
    {v : Value} {n : Nat} {xs : List Value} {Hs F : Hp} (hv : SlR E sz v n xs Hs) (hw : Has S w (Hs ++ F))
    {a : Addr} {m c : Nat} {news : List Value} (hl : news.length = m * sz) (hnews : ∀ j u, news[j]? = some u → w.cell? (a.add j) = some u) (h1 : ∀ u, u ∈ news → u.oneCell' = true)
    (h63 : n + m ≤ maxLen) (hbytes : (n + m) * bytes ≤ 140737488355328) :
    ∃ v' w' Hs', (Builtin.append_ #[t, t] ty #[v, .slice (some a) m c]).run P w = .ok v' w' ∧ SlR E sz v' (n + m) (xs ++ news) Hs' ∧ Has S w' (Hs' ++ F) ∧ (v' = .slice none 0 0 ↔ v = .slice none 0 0 ∧ m = 0) := by
  subst hsize
  subst hby
  have hsmall : n + m ≤ 9223372036854775807 := by simp only [maxLen] at h63; omega
  have hlen : (xs ++ news).length = (n + m) * i.size := by rw [List.length_append, hv.1, hl, Nat.add_mul]
  have grown : ∀ (old : Nat), old < n + m →
      SlR E i.size (.slice (some ⟨w.heap.size, 0, none⟩) (n + m) (grownCap w (n + m) old E)) (n + m) (xs ++ news)
        [(w.heap.size, .cells (xs.toArray ++ news.toArray ++ Builtin.zeroCells z.cells (grownCap w (n + m) old E - (n + m))) E (0, 0))] ∧
      Has S (w.drew.alloc (.cells (xs.toArray ++ news.toArray ++ Builtin.zeroCells z.cells (grownCap w (n + m) old E - (n + m))) E))
        ([(w.heap.size, .cells (xs.toArray ++ news.toArray ++ Builtin.zeroCells z.cells (grownCap w (n + m) old E - (n + m))) E (0, 0))] ++ F) := by
    intro old ho
    have hge := grownCap_ge w (n + m) old E
    have hcm : grownCap w (n + m) old E ≤ maxLen := grownCap_le_maxLen w (n + m) old E h63
    refine ⟨⟨hlen, .inr ⟨w.heap.size, 0, _, _, rfl, hge, hcm, rfl, ?_, fun j hj => ?_⟩⟩, (hw.right.drew).alloc _⟩
    · simp only [Array.size_append, List.size_toArray, size_zeroCells, hzs, hv.1, hl, ← Nat.add_mul, Nat.zero_add]
      rw [show n + m + (grownCap w (n + m) old E - (n + m)) = grownCap w (n + m) old E by omega]
      exact Nat.le_refl _
    · rw [Nat.zero_add, Array.getElem?_append_left (by simp; simp at hlen; omega)]
      simp
  obtain ⟨hxl, hv⟩ := hv
  rcases hv with ⟨rfl, rfl, rfl⟩ | ⟨b, off, cap, cur, rfl, hnc, hcm, rfl, hcs, hx⟩
  · have hx : xs = [] := List.eq_nil_of_length_eq_zero (by simpa using hxl)
    subst hx
    by_cases hm : m = 0
    · subst hm
      have hn : news = [] := List.eq_nil_of_length_eq_zero (by simpa using hl)
      subst hn
      refine ⟨.slice none 0 0, w, [], ?_, SlR.nil E i.size, hw, by simp⟩
      simp [Builtin.append_, run_underlying ht, sizeOf, typeInfo, hi, Builtin.lenOf, Builtin.firstCells, loadCells, loadCellsFrom]
    · have hr := run_append_nil (P := P) w t ty E i z ht hi hz a m c news hl hnews (by omega) (by omega) (by have hb := hbytes; simp only [Nat.zero_add] at hb; omega)
      have hgr := grown 0 (by omega)
      simp only [Nat.zero_add, List.nil_append, Array.empty_append] at hgr ⊢
      exact ⟨_, _, _, hr, hgr.1, hgr.2, by simp [hm]⟩
  · have hg : w.heap[b]? = some (.cells cur E (0, 0)) := hw.obj (by simp)
    have holds : ∀ j u, xs[j]? = some u → w.cell? ((⟨b, off, none⟩ : Addr).add j) = some u := by
      intro j u hj
      have hadd : (⟨b, off, none⟩ : Addr).add j = ⟨b, off + j, none⟩ := by unfold Addr.add; split <;> simp_all
      have hlt := (List.getElem?_eq_some_iff.1 hj).1
      rw [hadd, cell_of_row w b _ cur E (0, 0) hg, hx j (by omega)]; exact hj
    by_cases hroom : n + m ≤ cap
    · have hfit : off + n * i.size + news.length ≤ cur.size := by
        have h2 : (n + m) * i.size ≤ cap * i.size := Nat.mul_le_mul_right _ hroom
        rw [Nat.add_mul] at h2
        rw [hl]; omega
      have hf := run_firstCells_some (P := P) w i.size m a m c news hl hnews
      have hst := run_storeCells_at P b (off + n * i.size) E news 0 cur w hg (by simpa using hfit) h1
      simp only [Nat.add_zero] at hst
      have hr : (Builtin.append_ #[t, t] ty #[.slice (some ⟨b, off, none⟩) n cap, .slice (some a) m c]).run P w =
          .ok (.slice (some ⟨b, off, none⟩) (n + m) cap) (w.setRow b (cur.toList.take (off + n * i.size) ++ news ++ cur.toList.drop (off + n * i.size + news.length)).toArray) := by
        simp [Builtin.append_, run_underlying ht, sizeOf, typeInfo, hi, Builtin.lenOf, hroom, hf, Addr.add_lit, hst]
      refine ⟨_, _, [(b, .cells (cur.toList.take (off + n * i.size) ++ news ++ cur.toList.drop (off + n * i.size + news.length)).toArray E (0, 0))], hr,
        ⟨hlen, .inr ⟨b, off, cap, _, rfl, hroom, hcm, rfl, ?_, fun j hj => ?_⟩⟩, ?_, by simp⟩
      · simp only [List.size_toArray, List.length_append, List.length_take, List.length_drop, Array.length_toList]
        omega
      · simp only [List.getElem?_toArray, List.append_assoc]
        rw [Nat.add_mul, ← hl] at hj
        by_cases h2 : j < n * i.size
        · rw [List.getElem?_append_left (by simp; omega), List.getElem?_take, if_pos (by omega), List.getElem?_append_left (by omega), ← hx j h2]
          simp
        · have e1 : (cur.toList.take (off + n * i.size)).length = off + n * i.size := by rw [List.length_take, Array.length_toList]; omega
          have e2 : (cur.toList.take (off + n * i.size) ++ (news ++ cur.toList.drop (off + n * i.size + news.length)))[off + j]? = news[j - n * i.size]? := by
            rw [List.getElem?_append_right (by omega), e1, List.getElem?_append_left (by omega)]
            congr 1
            omega
          rw [e2, List.getElem?_append_right (by omega), hxl]
      · exact Has.turn (o := .cells cur E (0, 0)) hw rfl rfl rfl (by simp) (setRow_heap w b cur _ E _ hg) (fun k _ hk => setRow_other w b k _ hk)
    · have hr := run_append_grow (P := P) w t ty E i z ht hi hz ⟨b, off, none⟩ n cap xs hxl holds a m c news hl hnews (by omega) (by omega) (growslice_fits (by omega) hbytes)
      have hgr := grown cap (by omega)
      exact ⟨_, _, _, hr, hgr.1, hgr.2, by simp⟩

/-- The same as an arm of a walk. -/
theorem wpList_append {P : Program} {S w : World} {ops : Array Oper} {rest : List Oper} {o : Oper} {a : Act} {Q : Exit → Act → World → Prop} (hgd : o.guard = none) (s x : Operand) (t : TypeId)
    (ho : o.op = .call { callee := .builtin .append, args := #[s, x], argTypes := #[t, t] })
    {E : TypeId} {i : TypeInfo} {z : Value} {sz bytes : Nat} (ht : P.underlying t = some (.slice E)) (hi : P.info? E = some i) (hz : i.zero = some z)
    (hsize : i.size = sz) (hby : i.bytes = bytes) (hzs : z.cells.size = sz) (hsz : 0 < sz)
    {v : Value} {n : Nat} {xs : List Value} {Hs F : Hp} (hs : a.eval s = v) (hv : SlR E sz v n xs Hs) (hw : Has S w (Hs ++ F))
    (ad : Addr) (m c : Nat) (news : List Value) (hx : a.eval x = .slice (some ad) m c) (hl : news.length = m * sz) (hnews : ∀ j u, news[j]? = some u → w.cell? (ad.add j) = some u) (h1 : ∀ u, u ∈ news → u.oneCell' = true)
    (h63 : n + m ≤ maxLen) (hbytes : (n + m) * bytes ≤ 140737488355328)
    (h : ∀ v' w' Hs', SlR E sz v' (n + m) (xs ++ news) Hs' → Has S w' (Hs' ++ F) → (v' = .slice none 0 0 ↔ v = .slice none 0 0 ∧ m = 0) → wpList P ops Q rest (a.put o.dst v') w') : wpList P ops Q (o :: rest) a w := by
  obtain ⟨v', w', Hs', hr, h2, h3, h4⟩ := run_append_own (P := P) (ty := o.type) ht hi hz hsize hby hzs hsz hv hw hl hnews h1 h63 hbytes
  refine wpList_plain hgd fun K hK => ?_
  unfold Oper.wp execOp
  simp only [ho, resolve, invoke, builtin, Sem.run_bind, Sem.run_pure, Result.andThen_ok, List.map_toArray, List.map_cons, List.map_nil, hs, hx]
  rw [hr]
  exact hK _ _ (h v' w' Hs' h2 h3 h4)

/-- 'append(s, x)' where x was just laid as a slice of its own: s of one's own. -/
theorem wp_append_lit {P : Program} {S X : World} {cs : Array Value} {E' : TypeId} {o : Oper} {a : Act} {K : Act → World → Prop} {Q : Exit → Act → World → Prop} (s x : Operand) (t : TypeId)
    (ho : o.op = .call { callee := .builtin .append, args := #[s, x], argTypes := #[t, t] })
    {E : TypeId} {i : TypeInfo} {z : Value} {sz bytes : Nat} (ht : P.underlying t = some (.slice E)) (hi : P.info? E = some i) (hz : i.zero = some z)
    (hsize : i.size = sz) (hby : i.bytes = bytes) (hzs : z.cells.size = sz) (hsz : 0 < sz)
    {v : Value} {n : Nat} {xs : List Value} {Hs F : Hp} {B m c : Nat} (hs : a.eval s = v) (hx : a.eval x = .slice (some ⟨B, 0, none⟩) m c) (hB : X.heap.size = B) (hv : SlR E sz v n xs Hs) (hX : Has S X (Hs ++ F))
    (hl : cs.size = m * sz) (h1 : cs.toList.all (fun u => u.oneCell') = true)
    (h63 : n + m ≤ maxLen) (hbytes : (n + m) * bytes ≤ 140737488355328)
    (h : ∀ v' w' Hs', SlR E sz v' (n + m) (xs ++ cs.toList) Hs' → Has S w' (Hs' ++ F) → (v' = .slice none 0 0 ↔ v = .slice none 0 0 ∧ m = 0) → K (a.put o.dst v') w') : o.wp P a (X.alloc (.cells cs E')) K Q := by
  subst hB
  have hnews : ∀ j u, cs.toList[j]? = some u → (X.alloc (.cells cs E')).cell? ((⟨X.heap.size, 0, none⟩ : Addr).add j) = some u := by
    intro j u hj
    have hadd : (⟨X.heap.size, 0, none⟩ : Addr).add j = ⟨X.heap.size, j, none⟩ := by unfold Addr.add; split <;> simp_all
    rw [hadd]
    exact new_cell X cs E' j (by simpa using hj)
  obtain ⟨v', w', Hs', hr, h2, h3, h4⟩ := run_append_own (P := P) (ty := o.type) (c := c) ht hi hz hsize hby hzs hsz hv (hX.more (.cells cs E')) (by simpa using hl) hnews (List.all_eq_true.1 h1) h63 hbytes
  unfold Oper.wp execOp
  simp only [ho, resolve, invoke, builtin, Sem.run_bind, Sem.run_pure, Result.andThen_ok, List.map_toArray, List.map_cons, List.map_nil, hs, hx]
  rw [hr]
  exact h v' w' Hs' h2 h3 h4

theorem wpList_append_lit {P : Program} {S X : World} {cs : Array Value} {E' : TypeId} {ops : Array Oper} {rest : List Oper} {o : Oper} {a : Act} {Q : Exit → Act → World → Prop} (hgd : o.guard = none) (s x : Operand) (t : TypeId)
    (ho : o.op = .call { callee := .builtin .append, args := #[s, x], argTypes := #[t, t] })
    {E : TypeId} {i : TypeInfo} {z : Value} {sz bytes : Nat} (ht : P.underlying t = some (.slice E)) (hi : P.info? E = some i) (hz : i.zero = some z)
    (hsize : i.size = sz) (hby : i.bytes = bytes) (hzs : z.cells.size = sz) (hsz : 0 < sz)
    {v : Value} {n : Nat} {xs : List Value} {Hs F : Hp} {B m c : Nat} (hs : a.eval s = v) (hx : a.eval x = .slice (some ⟨B, 0, none⟩) m c) (hB : X.heap.size = B) (hv : SlR E sz v n xs Hs) (hX : Has S X (Hs ++ F))
    (hl : cs.size = m * sz) (h1 : cs.toList.all (fun u => u.oneCell') = true)
    (h63 : n + m ≤ maxLen) (hbytes : (n + m) * bytes ≤ 140737488355328)
    (h : ∀ v' w' Hs', SlR E sz v' (n + m) (xs ++ cs.toList) Hs' → Has S w' (Hs' ++ F) → (v' = .slice none 0 0 ↔ v = .slice none 0 0 ∧ m = 0) → wpList P ops Q rest (a.put o.dst v') w') : wpList P ops Q (o :: rest) a (X.alloc (.cells cs E')) :=
  wpList_plain hgd fun _ hK => wp_append_lit s x t ho ht hi hz hsize hby hzs hsz hs hx hB hv hX hl h1 h63 hbytes fun v' w' Hs' h2 h3 h4 => hK _ _ (h v' w' Hs' h2 h3 h4)

/-- A slice of one's own that is not empty lies somewhere; what is stored into it. -/
theorem SlR.at {E : TypeId} {sz n : Nat} {v : Value} {xs : List Value} {Hs : Hp} (h : SlR E sz v n xs Hs) (hn : 0 < n) :
    ∃ b off cap, v = .slice (some ⟨b, off, none⟩) n cap ∧ n ≤ cap ∧ RowAt Hs b off xs ∧ (∀ (S w : World) (F : Hp), Has S w (Hs ++ F) → (∀ o, w.frozen? ⟨b, o, none⟩ = false) ∧
      ∀ j u, j < n * sz → ∃ Hs', SlR E sz (.slice (some ⟨b, off, none⟩) n cap) n (xs.set j u) Hs' ∧ Has S (w.setCell ⟨b, off + j, none⟩ u) (Hs' ++ F)) := by
  obtain ⟨hl, ⟨_, hn0, _⟩ | ⟨b, off, cap, c, hv, hnc, hm, rfl, hc, hx⟩⟩ := h
  · omega
  · refine ⟨b, off, cap, hv, hnc, ⟨c, E, (0, 0), by simp, fun j u hj => ?_⟩, fun S w F hw => ⟨fun o => hw.frozen (c := c) (E := E) (by simp) o, fun j u hj => ⟨[(b, .cells (c.setIfInBounds (off + j) u) E (0, 0))], ⟨by simpa using hl, .inr ⟨b, off, cap, _, rfl, hnc, hm, rfl, by simpa using hc, fun i hi => ?_⟩⟩, ?_⟩⟩⟩
    · have hlt := (List.getElem?_eq_some_iff.1 hj).1
      rw [hx j (by omega)]; exact hj
    · have h2 : n * sz ≤ cap * sz := Nat.mul_le_mul_right _ hnc
      rw [List.getElem?_set]
      by_cases e : j = i
      · subst e
        rw [if_pos rfl, if_pos (by omega)]
        simp [Array.getElem?_setIfInBounds]
        omega
      · rw [if_neg e, Array.getElem?_setIfInBounds_ne (by omega)]
        exact hx i hi
    · exact Has.setCell hw u

/-- A function with a body is entered. -/
theorem enters {P : Program} {f : FuncId} {fn : Func} {c : Code} (hf : P.funcs[f]? = some fn) (hname : (fn.name == "runtime.NumGoroutine") = false) (hb : fn.body = some c) :
    ∀ (args : Array Value) (w : World), (callFunc f args).run P w = .ok (.enter f args) w := fun args w => by
  have h1 : fn.name ≠ "runtime.NumGoroutine" := by simpa using hname
  simp [callFunc, hf, h1, hb]

/-! ### Cells that a callee leaves as they are (for the regions whose order is open) -/

theorem keep1 {W w' : World} {a : Addr} {u : Value} (h : W.cell? a = some u) (hb : Below W.heap.size W w') : w'.cell? a = some u := (hb.cell (World.block_lt_of_cell? W a h)).trans h
theorem keep2 {W w' : World} {a0 a1 : Addr} {u0 u1 : Value} (h : W.cell? a0 = some u0 ∧ W.cell? a1 = some u1) (hb : Below W.heap.size W w') : w'.cell? a0 = some u0 ∧ w'.cell? a1 = some u1 := ⟨keep1 h.1 hb, keep1 h.2 hb⟩
theorem keep3 {W w' : World} {a0 a1 a2 : Addr} {u0 u1 u2 : Value} (h : W.cell? a0 = some u0 ∧ W.cell? a1 = some u1 ∧ W.cell? a2 = some u2) (hb : Below W.heap.size W w') : w'.cell? a0 = some u0 ∧ w'.cell? a1 = some u1 ∧ w'.cell? a2 = some u2 := ⟨keep1 h.1 hb, keep2 h.2 hb⟩
theorem keep4 {W w' : World} {a0 a1 a2 a3 : Addr} {u0 u1 u2 u3 : Value} (h : W.cell? a0 = some u0 ∧ W.cell? a1 = some u1 ∧ W.cell? a2 = some u2 ∧ W.cell? a3 = some u3) (hb : Below W.heap.size W w') : w'.cell? a0 = some u0 ∧ w'.cell? a1 = some u1 ∧ w'.cell? a2 = some u2 ∧ w'.cell? a3 = some u3 := ⟨keep1 h.1 hb, keep3 h.2 hb⟩
theorem keep5 {W w' : World} {a0 a1 a2 a3 a4 : Addr} {u0 u1 u2 u3 u4 : Value} (h : W.cell? a0 = some u0 ∧ W.cell? a1 = some u1 ∧ W.cell? a2 = some u2 ∧ W.cell? a3 = some u3 ∧ W.cell? a4 = some u4) (hb : Below W.heap.size W w') : w'.cell? a0 = some u0 ∧ w'.cell? a1 = some u1 ∧ w'.cell? a2 = some u2 ∧ w'.cell? a3 = some u3 ∧ w'.cell? a4 = some u4 := ⟨keep1 h.1 hb, keep4 h.2 hb⟩
theorem keep6 {W w' : World} {a0 a1 a2 a3 a4 a5 : Addr} {u0 u1 u2 u3 u4 u5 : Value} (h : W.cell? a0 = some u0 ∧ W.cell? a1 = some u1 ∧ W.cell? a2 = some u2 ∧ W.cell? a3 = some u3 ∧ W.cell? a4 = some u4 ∧ W.cell? a5 = some u5) (hb : Below W.heap.size W w') : w'.cell? a0 = some u0 ∧ w'.cell? a1 = some u1 ∧ w'.cell? a2 = some u2 ∧ w'.cell? a3 = some u3 ∧ w'.cell? a4 = some u4 ∧ w'.cell? a5 = some u5 := ⟨keep1 h.1 hb, keep5 h.2 hb⟩
theorem keep7 {W w' : World} {a0 a1 a2 a3 a4 a5 a6 : Addr} {u0 u1 u2 u3 u4 u5 u6 : Value} (h : W.cell? a0 = some u0 ∧ W.cell? a1 = some u1 ∧ W.cell? a2 = some u2 ∧ W.cell? a3 = some u3 ∧ W.cell? a4 = some u4 ∧ W.cell? a5 = some u5 ∧ W.cell? a6 = some u6) (hb : Below W.heap.size W w') : w'.cell? a0 = some u0 ∧ w'.cell? a1 = some u1 ∧ w'.cell? a2 = some u2 ∧ w'.cell? a3 = some u3 ∧ w'.cell? a4 = some u4 ∧ w'.cell? a5 = some u5 ∧ w'.cell? a6 = some u6 := ⟨keep1 h.1 hb, keep6 h.2 hb⟩
theorem keep8 {W w' : World} {a0 a1 a2 a3 a4 a5 a6 a7 : Addr} {u0 u1 u2 u3 u4 u5 u6 u7 : Value} (h : W.cell? a0 = some u0 ∧ W.cell? a1 = some u1 ∧ W.cell? a2 = some u2 ∧ W.cell? a3 = some u3 ∧ W.cell? a4 = some u4 ∧ W.cell? a5 = some u5 ∧ W.cell? a6 = some u6 ∧ W.cell? a7 = some u7) (hb : Below W.heap.size W w') : w'.cell? a0 = some u0 ∧ w'.cell? a1 = some u1 ∧ w'.cell? a2 = some u2 ∧ w'.cell? a3 = some u3 ∧ w'.cell? a4 = some u4 ∧ w'.cell? a5 = some u5 ∧ w'.cell? a6 = some u6 ∧ w'.cell? a7 = some u7 := ⟨keep1 h.1 hb, keep7 h.2 hb⟩

end Go.Proofs.YtifeapnhemolgaaGreatDoor.HL
