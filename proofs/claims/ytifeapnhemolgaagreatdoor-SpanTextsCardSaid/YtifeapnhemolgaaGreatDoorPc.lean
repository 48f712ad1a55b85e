/- Lists of spans that lie apart: one list for each set of numbers. -/
import Derived.Test.YtifeapnhemolgaaGreatDoorPb
namespace Go.Proofs.YtifeapnhemolgaaGreatDoor.Pl

/-- Spans that lie apart, in order. -/
def sep (l : List Sp) : Prop := (∀ s, s ∈ l → s.lo < s.hi) ∧ l.Pairwise (fun s t => s.hi < t.lo)

theorem inB_iff {l : List Sp} {x : Int} : inB l x = true ↔ ∃ s, s ∈ l ∧ s.lo ≤ x ∧ x < s.hi := by
  simp [inB]

theorem inB_nil (x : Int) : inB [] x = false := rfl

theorem inB_append (a b : List Sp) (x : Int) : inB (a ++ b) x = (inB a x || inB b x) := by simp [inB]

theorem inB_one (s : Sp) (x : Int) : inB [s] x = decide (s.lo ≤ x ∧ x < s.hi) := by simp [inB]

theorem inB_cons (s : Sp) (l : List Sp) (x : Int) : inB (s :: l) x = (decide (s.lo ≤ x ∧ x < s.hi) || inB l x) := by simp [inB]

theorem sep_nil : sep [] := ⟨by simp, by simp⟩

theorem sep.tail {s : Sp} {l : List Sp} (h : sep (s :: l)) : sep l := ⟨fun t ht => h.1 t (List.mem_cons_of_mem _ ht), (List.pairwise_cons.1 h.2).2⟩

/-- What lies behind the first span lies beyond its end. -/
theorem sep.far {s : Sp} {l : List Sp} (h : sep (s :: l)) {x : Int} (hx : inB l x = true) : s.hi < x := by
  obtain ⟨t, ht, h1, h2⟩ := inB_iff.1 hx
  have := (List.pairwise_cons.1 h.2).1 t ht
  omega

theorem sep.rest {s : Sp} {l : List Sp} (h : sep (s :: l)) (x : Int) : inB l x = (inB (s :: l) x && decide (s.hi < x)) := by
  rw [inB_cons]
  by_cases h1 : inB l x = true
  · simp [h1, h.far h1]
  · have h1 : inB l x = false := by simpa using h1
    rw [h1]
    by_cases h2 : s.lo ≤ x ∧ x < s.hi
    · simp [h2]; omega
    · simp [h2]

/-- The least number of such a list is its first span's first. -/
theorem sep.least {s : Sp} {l : List Sp} (h : sep (s :: l)) {x : Int} (hx : inB (s :: l) x = true) : s.lo ≤ x := by
  rw [inB_cons, Bool.or_eq_true] at hx
  rcases hx with hx | hx
  · simp at hx; exact hx.1
  · have := h.far hx
    have := h.1 s List.mem_cons_self
    omega

theorem sep.has_lo {s : Sp} {l : List Sp} (h : sep (s :: l)) : inB (s :: l) s.lo = true := by
  have := h.1 s List.mem_cons_self
  rw [inB_cons]; simp [this]

/-- Its first gap is the first span's end. -/
theorem sep.gap {s : Sp} {l : List Sp} (h : sep (s :: l)) : inB (s :: l) s.hi = false := by
  rw [inB_cons]
  have h1 : inB l s.hi = false := by
    cases h2 : inB l s.hi with
    | false => rfl
    | true => have := h.far h2; omega
  rw [h1]
  simp

theorem sep.run {s : Sp} {l : List Sp} {x : Int} (h1 : s.lo ≤ x) (h2 : x < s.hi) : inB (s :: l) x = true := by
  rw [inB_cons]; simp [h1, h2]

/-- Two lists of spans that lie apart and have the same numbers are one. -/
theorem sep.unique : ∀ {a b : List Sp}, sep a → sep b → (∀ x, inB a x = inB b x) → a = b
  | [], [], _, _, _ => rfl
  | [], t :: b, _, hb, h => by
    have h1 := hb.has_lo
    rw [← h] at h1
    cases h1
  | s :: a, [], ha, _, h => by
    have h1 := ha.has_lo
    rw [h] at h1
    cases h1
  | s :: a, t :: b, ha, hb, h => by
    have e1 : s.lo = t.lo := by
      have h1 := ha.has_lo
      have h2 := hb.has_lo
      rw [h] at h1
      rw [← h] at h2
      have h3 := hb.least h1
      have h4 := ha.least h2
      omega
    have e2 : s.hi = t.hi := by
      have p1 := ha.1 s List.mem_cons_self
      have p2 := hb.1 t List.mem_cons_self
      rcases Int.lt_trichotomy s.hi t.hi with hlt | he | hlt
      · have h1 := ha.gap
        rw [h, sep.run (by omega) hlt] at h1
        cases h1
      · exact he
      · have h1 := hb.gap
        rw [← h, sep.run (by omega) hlt] at h1
        cases h1
    obtain ⟨slo, shi⟩ := s
    obtain ⟨tlo, thi⟩ := t
    simp only at e1 e2
    subst e1
    subst e2
    rw [sep.unique ha.tail hb.tail fun x => by rw [ha.rest, hb.rest, h]]

/-! ### Spans put together -/

theorem sep_snoc {out : List Sp} {s : Sp} (h : sep out) (hs : s.lo < s.hi) (hl : ∀ p, p ∈ out → p.hi < s.lo) : sep (out ++ [s]) := by
  refine ⟨fun t ht => ?_, ?_⟩
  · rcases List.mem_append.1 ht with ht | ht
    · exact h.1 t ht
    · simp at ht; subst ht; exact hs
  · rw [List.pairwise_append]
    exact ⟨h.2, by simp, fun p hp t ht => by simp at ht; subst ht; exact hl p hp⟩

theorem sep_snoc_iff {out : List Sp} {s : Sp} : sep (out ++ [s]) ↔ sep out ∧ s.lo < s.hi ∧ ∀ p, p ∈ out → p.hi < s.lo := by
  refine ⟨fun h => ?_, fun ⟨h1, h2, h3⟩ => sep_snoc h1 h2 h3⟩
  have h2 := h.2
  rw [List.pairwise_append] at h2
  exact ⟨⟨fun t ht => h.1 t (List.mem_append_left _ ht), h2.1⟩, h.1 s (by simp), fun p hp => h2.2.2 p hp s (by simp)⟩

theorem nil_or_snoc {α : Type} (l : List α) : l = [] ∨ ∃ ys p, l = ys ++ [p] := by
  rcases List.eq_nil_or_concat l with h | ⟨ys, p, h⟩
  · exact .inl h
  · exact .inr ⟨ys, p, by rw [h, List.concat_eq_append]⟩

theorem joinStep_spec {out : List Sp} {s : Sp} (h : sep out) (hs : s.lo < s.hi) (hl : ∀ p, p ∈ out → p.lo ≤ s.lo) :
    sep (joinStep out s) ∧ (∀ x, inB (joinStep out s) x = (inB out x || decide (s.lo ≤ x ∧ x < s.hi))) ∧ ∀ y, s.lo ≤ y → ∀ p, p ∈ joinStep out s → p.lo ≤ y := by
  unfold joinStep
  rcases nil_or_snoc out with rfl | ⟨ys, p, rfl⟩
  · simp only [List.getLast?_nil]
    exact ⟨⟨by simpa using hs, by simp⟩, fun x => by simp [inB], fun y hy p hp => by simp at hp; subst hp; exact hy⟩
  · obtain ⟨h1, h2, h3⟩ := sep_snoc_iff.1 h
    have hp := hl p (by simp)
    simp only [List.getLast?_append, List.getLast?_singleton, Option.some_or, List.dropLast_concat]
    by_cases hle : s.lo ≤ p.hi
    · rw [if_pos hle]
      refine ⟨sep_snoc h1 (by simp; omega) h3, fun x => ?_, fun y hy q hq => ?_⟩
      · rw [inB_append, inB_append, inB_one, inB_one, Bool.or_assoc]
        congr 1
        rw [← Bool.decide_or]
        apply decide_eq_decide.2
        simp only
        omega
      · rcases List.mem_append.1 hq with hq | hq
        · have := hl q (by simp [hq]); omega
        · simp at hq; subst hq; simp; omega
    · rw [if_neg hle]
      refine ⟨sep_snoc h hs fun q hq => ?_, fun x => by rw [inB_append, inB_one], fun y hy q hq => ?_⟩
      · rcases List.mem_append.1 hq with hq | hq
        · have := h3 q hq; omega
        · simp at hq; subst hq; omega
      · rcases List.mem_append.1 hq with hq | hq
        · have := hl q hq; omega
        · simp at hq; subst hq; omega

theorem joinFold_spec : ∀ (l out : List Sp), sep out → (∀ s, s ∈ l → s.lo < s.hi) → l.Pairwise (fun s t => s.lo ≤ t.lo) → (∀ p, p ∈ out → ∀ s, s ∈ l → p.lo ≤ s.lo) →
    sep (l.foldl joinStep out) ∧ ∀ x, inB (l.foldl joinStep out) x = (inB out x || inB l x)
  | [], out, h, _, _, _ => ⟨h, fun x => by simp [inB_nil]⟩
  | s :: l, out, h, hp, hs, hl => by
    obtain ⟨h1, h2, h3⟩ := joinStep_spec h (hp s List.mem_cons_self) (fun p hm => hl p hm s List.mem_cons_self)
    rw [List.pairwise_cons] at hs
    obtain ⟨k1, k2⟩ := joinFold_spec l (joinStep out s) h1 (fun t ht => hp t (List.mem_cons_of_mem _ ht)) hs.2 (fun p hm t ht => h3 t.lo (hs.1 t ht) p hm)
    exact ⟨k1, fun x => by rw [List.foldl_cons, k2, h2, inB_cons, Bool.or_assoc]⟩

/-- Spans in the order of their beginnings, put together. -/
theorem joinL_spec {l : List Sp} (hp : ∀ s, s ∈ l → s.lo < s.hi) (hs : l.Pairwise (fun s t => s.lo ≤ t.lo)) : sep (joinL l) ∧ ∀ x, inB (joinL l) x = inB l x := by
  obtain ⟨h1, h2⟩ := joinFold_spec l [] sep_nil hp hs (by simp)
  exact ⟨h1, fun x => by rw [joinL, h2]; simp [inB_nil]⟩

/-! ### Sets -/

theorem sep_of_chain : ∀ {l : List Sp}, chain l = true → sep l
  | [], _ => sep_nil
  | [s], h => ⟨by intro t ht; simp at ht; subst ht; exact (ok_bounds h).2.1, by simp⟩
  | s :: t :: l, h => by
    simp only [chain, Bool.and_eq_true, decide_eq_true_eq] at h
    have ih := sep_of_chain h.2
    refine ⟨fun u hu => ?_, ?_⟩
    · rcases List.mem_cons.1 hu with rfl | hu
      · exact (ok_bounds h.1.1).2.1
      · exact ih.1 u hu
    · rw [List.pairwise_cons]
      refine ⟨fun u hu => ?_, ih.2⟩
      rcases List.mem_cons.1 hu with rfl | hu
      · exact h.1.2
      · have h1 := (List.pairwise_cons.1 ih.2).1 u hu
        have h2 := ih.1 t List.mem_cons_self
        omega

theorem chain_of_sep : ∀ {l : List Sp}, sep l → (∀ s, s ∈ l → s.ok = true) → chain l = true
  | [], _, _ => rfl
  | [s], _, h => h s (by simp)
  | s :: t :: l, hs, h => by
    simp only [chain, Bool.and_eq_true, decide_eq_true_eq]
    exact ⟨⟨h s (by simp), (List.pairwise_cons.1 hs.2).1 t (by simp)⟩, chain_of_sep hs.tail fun u hu => h u (List.mem_cons_of_mem _ hu)⟩

/-- Is a number within the whole? -/
def inW (x : Int) : Bool := decide (-1099511627776 ≤ x ∧ x < 1099511627776)

theorem ok_of_sep {l : List Sp} (h : sep l) (hw : ∀ x, inB l x = true → inW x = true) : ∀ s, s ∈ l → s.ok = true := by
  intro s hs
  have hp := h.1 s hs
  have h1 := hw s.lo (inB_iff.2 ⟨s, hs, by omega, hp⟩)
  have h2 := hw (s.hi - 1) (inB_iff.2 ⟨s, hs, by omega, by omega⟩)
  simp only [inW, decide_eq_true_eq] at h1 h2
  simp only [Sp.ok, decide_eq_true_eq]
  omega

theorem set_sep {l : List Sp} (h : isSet l = true) : sep l ∧ l.length ≤ 128 ∧ (∀ s, s ∈ l → s.ok = true) ∧ ∀ x, inB l x = true → inW x = true := by
  simp only [isSet, Bool.and_eq_true, decide_eq_true_eq] at h
  refine ⟨sep_of_chain h.2, h.1, ok_of_chain h.2, fun x hx => ?_⟩
  obtain ⟨s, hs, h1, h2⟩ := inB_iff.1 hx
  have := ok_bounds (ok_of_chain h.2 s hs)
  simp only [inW, decide_eq_true_eq]
  omega

theorem set_of_sep {l : List Sp} (h : sep l) (hl : l.length ≤ 128) (hw : ∀ x, inB l x = true → inW x = true) : isSet l = true := by
  simp only [isSet, Bool.and_eq_true, decide_eq_true_eq]
  exact ⟨hl, chain_of_sep h (ok_of_sep h hw)⟩

theorem set_unique {a b : List Sp} (ha : isSet a = true) (hb : isSet b = true) (h : ∀ x, inB a x = inB b x) : a = b := (set_sep ha).1.unique (set_sep hb).1 h

end Go.Proofs.YtifeapnhemolgaaGreatDoor.Pl
