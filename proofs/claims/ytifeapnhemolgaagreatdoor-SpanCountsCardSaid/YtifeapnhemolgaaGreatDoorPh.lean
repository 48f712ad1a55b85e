/- The sets of the statements by the chapter's theorems: which numbers they have. -/
import Derived.Test.YtifeapnhemolgaaGreatDoorPg
namespace Go.Proofs.YtifeapnhemolgaaGreatDoor.Pl

/-- The spans that a statement takes: those that are valid, the first 60. -/
def setsIn (l : List Sp) : List Sp := (l.filter fun s => s.ok).take 60

/-- The set of a statement's list. -/
def setOf (l : List Sp) : List Sp := madeL 0 (setsIn l) []

theorem setsIn_ok (l : List Sp) : ∀ s, s ∈ setsIn l → s.ok = true := fun _ hs => (List.mem_filter.1 (List.mem_of_mem_take hs)).2

theorem setsIn_length (l : List Sp) : (setsIn l).length ≤ 60 := List.length_take_le _ _

/-- Of spans that are valid there are no more than there were. -/
theorem joinL_length (l : List Sp) : (joinL l).length ≤ l.length := by
  have : ∀ (l out : List Sp), (l.foldl joinStep out).length ≤ out.length + l.length := fun l => by
    induction l with
    | nil => intro out; simp
    | cons s l ih =>
      intro out
      have h1 := ih (joinStep out s)
      have h2 := joinStep_length out s
      rw [List.foldl_cons, List.length_cons]
      omega
  have h := this l []
  simpa [joinL] using h

theorem made_join {l : List Sp} (h : ∀ s, s ∈ l → s.ok = true) : madeL 0 l [] = joinL (l.mergeSort fun s t => decide (s.lo ≤ t.lo)) := by
  have hm : ∀ s, s ∈ (l.mergeSort fun s t => decide (s.lo ≤ t.lo)) ↔ s ∈ l := fun s => List.mem_mergeSort
  have hp : (l.mergeSort fun s t => decide (s.lo ≤ t.lo)).Pairwise (fun s t => s.lo ≤ t.lo) := by
    have := List.pairwise_mergeSort (le := fun s t : Sp => decide (s.lo ≤ t.lo)) (fun a b c h1 h2 => by simp at *; omega) (fun a b => by simp; omega) l
    exact this.imp fun h => by simpa using h
  obtain ⟨h1, h2⟩ := joinL_spec (fun s hs => (ok_bounds (h s ((hm s).1 hs))).2.1) hp
  obtain ⟨k1, k2⟩ := madeL_spec 0 l []
  refine k1.unique h1 fun x => ?_
  rw [h2, k2, inB_nil]
  have : inB (l.mergeSort fun s t => decide (s.lo ≤ t.lo)) x = inB l x := by
    rw [Bool.eq_iff_iff, inB_iff, inB_iff]
    constructor
    · rintro ⟨s, hs, g⟩; exact ⟨s, (hm s).1 hs, g⟩
    · rintro ⟨s, hs, g⟩; exact ⟨s, (hm s).2 hs, g⟩
  rw [this]
  simp [keepB]

theorem inW_of_ok {l : List Sp} (h : ∀ s, s ∈ l → s.ok = true) {x : Int} (hx : inB l x = true) : inW x = true := by
  obtain ⟨s, hs, h1, h2⟩ := inB_iff.1 hx
  have := ok_bounds (h s hs)
  simp only [inW, decide_eq_true_eq]
  omega

theorem made_set {l : List Sp} (h : ∀ s, s ∈ l → s.ok = true) (hl : l.length ≤ 128) : isSet (madeL 0 l []) = true := by
  obtain ⟨k1, k2⟩ := madeL_spec 0 l []
  refine set_of_sep k1 ?_ fun x hx => ?_
  · rw [made_join h]
    have := joinL_length (l.mergeSort fun s t => decide (s.lo ≤ t.lo))
    rw [List.length_mergeSort] at this
    omega
  · rw [k2, inB_nil] at hx
    exact inW_of_ok h (by simpa [keepB] using hx)

theorem setOf_set (l : List Sp) : isSet (setOf l) = true := made_set (setsIn_ok l) (Nat.le_trans (setsIn_length l) (by decide))

/-- The set that a rule chooses: its numbers. -/
theorem chosen_spec (f : Bool → Bool → Bool) {a b : List Sp} (ha : isSet a = true) (hb : isSet b = true) : sep (chosen f a b) ∧ ∀ x, inB (chosen f a b) x = (inW x && f (inB a x) (inB b x)) :=
  chosenL_spec f (edgesL_ends a b) (set_sep ha).2.2.1 (set_sep hb).2.2.1

theorem chosen_set (f : Bool → Bool → Bool) {a b : List Sp} (ha : isSet a = true) (hb : isSet b = true) (h : (chosen f a b).length ≤ 128) : isSet (chosen f a b) = true := by
  obtain ⟨h1, h2⟩ := chosen_spec f ha hb
  exact set_of_sep h1 h fun x hx => by rw [h2, Bool.and_eq_true] at hx; exact hx.1

theorem set_inW {a : List Sp} (ha : isSet a = true) {x : Int} (hx : inB a x = true) : inW x = true := (set_sep ha).2.2.2 x hx

/-- Two sets with the same numbers are one. -/
theorem set_ext {a b : List Sp} (ha : sep a) (hb : sep b) (h : ∀ x, inB a x = inB b x) : a = b := ha.unique hb h

/-! ### Tolerances -/

theorem growS_in (r : Int) (s : Sp) (x : Int) : decide ((growS r s).lo ≤ x ∧ x < (growS r s).hi) = true ↔ inW x = true ∧ s.lo - r ≤ x ∧ x < s.hi + r := by
  rw [decide_eq_true_iff]
  unfold inW
  rw [decide_eq_true_iff]
  unfold growS
  dsimp only
  constructor
  · rintro ⟨h1, h2⟩
    omega
  · rintro ⟨⟨h1, h2⟩, h3, h4⟩
    omega

theorem inB_grow (r : Int) (l : List Sp) (x : Int) : inB (l.map (growS r)) x = true ↔ inW x = true ∧ ∃ s, s ∈ l ∧ s.lo - r ≤ x ∧ x < s.hi + r := by
  rw [inB_iff]
  constructor
  · rintro ⟨t, ht, h⟩
    obtain ⟨s, hs, rfl⟩ := List.mem_map.1 ht
    have := (growS_in r s x).1 (by simpa using h)
    exact ⟨this.1, s, hs, this.2⟩
  · rintro ⟨h1, s, hs, h2⟩
    exact ⟨_, List.mem_map.2 ⟨s, hs, rfl⟩, by simpa using (growS_in r s x).2 ⟨h1, h2⟩⟩

theorem grow_spec {a : List Sp} (ha : isSet a = true) {r : Int} (hr : 0 ≤ r) : sep (growL r a) ∧ (growL r a).length ≤ 128 ∧ ∀ x, inB (growL r a) x = true ↔ inW x = true ∧ ∃ z, inB a z = true ∧ x - r ≤ z ∧ z ≤ x + r := by
  obtain ⟨hs, hl, hok, _⟩ := set_sep ha
  have hp : ∀ s, s ∈ a.map (growS r) → s.lo < s.hi := fun t ht => by
    obtain ⟨s, hs, rfl⟩ := List.mem_map.1 ht
    have := ok_bounds (hok s hs)
    simp only [growS]
    omega
  have hq : (a.map (growS r)).Pairwise (fun s t => s.lo ≤ t.lo) := by
    rw [List.pairwise_map]
    exact hs.2.imp_of_mem fun {s t} h1 _ h => by have := hs.1 s h1; simp only [growS]; omega
  obtain ⟨h1, h2⟩ := joinL_spec hp hq
  refine ⟨h1, ?_, fun x => ?_⟩
  · have := joinL_length (a.map (growS r))
    rw [List.length_map] at this
    unfold growL
    omega
  · unfold growL
    rw [h2, inB_grow]
    constructor
    · rintro ⟨hw, s, hs, g1, g2⟩
      have := ok_bounds (hok s hs)
      refine ⟨hw, max s.lo (min (s.hi - 1) x), inB_iff.2 ⟨s, hs, by omega, by omega⟩, by omega, by omega⟩
    · rintro ⟨hw, z, hz, g1, g2⟩
      obtain ⟨s, hs, k1, k2⟩ := inB_iff.1 hz
      exact ⟨hw, s, hs, by omega, by omega⟩

/-- What a set holds around a number lies in one span. -/
theorem run_one {a : List Sp} (hs : sep a) {u v : Int} (huv : u ≤ v) (h : ∀ y, u ≤ y → y ≤ v → inB a y = true) : ∃ s, s ∈ a ∧ s.lo ≤ u ∧ v < s.hi := by
  obtain ⟨s, hm, h1, h2⟩ := inB_iff.1 (h u (Int.le_refl _) huv)
  refine ⟨s, hm, h1, ?_⟩
  rcases Int.lt_or_le v s.hi with h3 | h3
  · exact h3
  · obtain ⟨t, ht, g1, g2⟩ := inB_iff.1 (h s.hi (by omega) h3)
    obtain ⟨i, hi, rfl⟩ := List.getElem_of_mem hm
    obtain ⟨j, hj, rfl⟩ := List.getElem_of_mem ht
    have hp := List.pairwise_iff_getElem.1 hs.2
    rcases Nat.lt_trichotomy i j with hlt | e | hlt
    · have := hp i j hi hj hlt; omega
    · subst e; omega
    · have := hp j i hj hi hlt
      have := hs.1 _ hm
      omega

theorem shrinkS_in {r : Int} {s t : Sp} (ht : t ∈ shrinkS r s) : t.lo < t.hi ∧ t.lo = (if -1099511627776 < s.lo then s.lo + r else s.lo) ∧ t.hi = (if s.hi < 1099511627776 then s.hi - r else s.hi) := by
  unfold shrinkS at ht
  dsimp only at ht
  generalize (if -1099511627776 < s.lo then s.lo + r else s.lo) = lo at *
  generalize (if s.hi < 1099511627776 then s.hi - r else s.hi) = hi at *
  by_cases h : lo < hi
  · rw [if_pos h] at ht
    simp at ht
    subst ht
    exact ⟨h, rfl, rfl⟩
  · rw [if_neg h] at ht
    cases ht

theorem shrinkS_one (r : Int) (s : Sp) : shrinkS r s = [] ∨ ∃ t, shrinkS r s = [t] := by
  unfold shrinkS
  dsimp only
  generalize (if -1099511627776 < s.lo then s.lo + r else s.lo) = lo
  generalize (if s.hi < 1099511627776 then s.hi - r else s.hi) = hi
  by_cases h : lo < hi
  · exact .inr ⟨_, if_pos h⟩
  · exact .inl (if_neg h)

theorem shrinkS_of {r : Int} {s : Sp} (h : (if -1099511627776 < s.lo then s.lo + r else s.lo) < (if s.hi < 1099511627776 then s.hi - r else s.hi)) :
    (⟨if -1099511627776 < s.lo then s.lo + r else s.lo, if s.hi < 1099511627776 then s.hi - r else s.hi⟩ : Sp) ∈ shrinkS r s := by
  unfold shrinkS
  dsimp only
  rw [if_pos h]
  exact List.mem_singleton.2 rfl

theorem shrink_spec {a : List Sp} (ha : isSet a = true) {r : Int} (hr : 0 ≤ r) : sep (shrinkL r a) ∧ (shrinkL r a).length ≤ 128 ∧ ∀ x, inB (shrinkL r a) x = true ↔ inW x = true ∧ ∀ y, inW y = true → x - r ≤ y → y ≤ x + r → inB a y = true := by
  obtain ⟨hs, hl, hok, _⟩ := set_sep ha
  refine ⟨⟨fun t ht => ?_, ?_⟩, ?_, fun x => ?_⟩
  · obtain ⟨s, _, h⟩ := List.mem_flatMap.1 ht
    exact (shrinkS_in h).1
  · unfold shrinkL
    rw [List.pairwise_flatMap]
    refine ⟨fun s _ => ?_, ?_⟩
    · rcases shrinkS_one r s with e | ⟨t, e⟩
      · rw [e]; exact List.Pairwise.nil
      · rw [e]; exact List.pairwise_singleton _ _
    · refine hs.2.imp_of_mem fun {s t} h1 h2 h u hu v hv => ?_
      obtain ⟨_, _, e1⟩ := shrinkS_in hu
      obtain ⟨_, e2, _⟩ := shrinkS_in hv
      have := ok_bounds (hok s h1)
      have := ok_bounds (hok t h2)
      split at e1 <;> split at e2 <;> omega
  · have : ∀ (l : List Sp), (shrinkL r l).length ≤ l.length := fun l => by
      induction l with
      | nil => simp [shrinkL]
      | cons s l ih =>
        have h1 : (shrinkS r s).length ≤ 1 := by
          rcases shrinkS_one r s with e | ⟨t, e⟩
          · rw [e]; exact Nat.zero_le _
          · rw [e]; exact Nat.le_refl _
        have e : shrinkL r (s :: l) = shrinkS r s ++ shrinkL r l := by simp [shrinkL]
        rw [e, List.length_append, List.length_cons]
        omega
    exact Nat.le_trans (this a) hl
  · constructor
    · intro hx
      obtain ⟨t, ht, h1, h2⟩ := inB_iff.1 hx
      obtain ⟨s, hm, hts⟩ := List.mem_flatMap.1 ht
      obtain ⟨_, e1, e2⟩ := shrinkS_in hts
      have hb := ok_bounds (hok s hm)
      refine ⟨?_, fun y hy g1 g2 => inB_iff.2 ⟨s, hm, ?_, ?_⟩⟩
      · simp only [inW, decide_eq_true_eq]
        split at e1 <;> split at e2 <;> omega
      · simp only [inW, decide_eq_true_eq] at hy
        split at e1 <;> omega
      · simp only [inW, decide_eq_true_eq] at hy
        split at e2 <;> omega
    · rintro ⟨hx, h⟩
      simp only [inW, decide_eq_true_eq] at hx
      obtain ⟨s, hm, h1, h2⟩ := run_one hs (u := max (x - r) (-1099511627776)) (v := min (x + r) 1099511627775) (by omega) fun y g1 g2 => h y (by simp only [inW, decide_eq_true_eq]; omega) (by omega) (by omega)
      have hb := ok_bounds (hok s hm)
      have k1 : (if -1099511627776 < s.lo then s.lo + r else s.lo) ≤ x := by split <;> omega
      have k2 : x < (if s.hi < 1099511627776 then s.hi - r else s.hi) := by split <;> omega
      exact inB_iff.2 ⟨_, List.mem_flatMap.2 ⟨s, hm, shrinkS_of (Int.lt_of_le_of_lt k1 k2)⟩, k1, k2⟩

theorem grow_set {a : List Sp} (ha : isSet a = true) {r : Int} (hr : 0 ≤ r) : isSet (growL r a) = true := by
  obtain ⟨h1, h2, h3⟩ := grow_spec ha hr
  exact set_of_sep h1 h2 fun x hx => ((h3 x).1 hx).1

theorem shrink_set {a : List Sp} (ha : isSet a = true) {r : Int} (hr : 0 ≤ r) : isSet (shrinkL r a) = true := by
  obtain ⟨h1, h2, h3⟩ := shrink_spec ha hr
  exact set_of_sep h1 h2 fun x hx => ((h3 x).1 hx).1

/-! ### How many spans there can be -/

theorem nodup_len : ∀ {l e : List Int}, l.Nodup → (∀ x, x ∈ l → x ∈ e) → l.length ≤ e.length
  | [], _, _, _ => Nat.zero_le _
  | x :: l, e, h, hs => by
    obtain ⟨h1, h2⟩ := List.nodup_cons.1 h
    have hx := hs x List.mem_cons_self
    have ih := nodup_len (l := l) (e := e.erase x) h2 fun y hy => by
      have hne : y ≠ x := fun e => h1 (e ▸ hy)
      exact (List.mem_erase_of_ne hne).2 (hs y (List.mem_cons_of_mem _ hy))
    have hl := List.length_erase_of_mem hx
    have hp := List.length_pos_of_mem hx
    rw [List.length_cons]
    omega

theorem join_ends {E : List Int} : ∀ (l out : List Sp), (∀ s, s ∈ out → s.lo ∈ E ∧ s.hi ∈ E) → (∀ s, s ∈ l → s.lo ∈ E ∧ s.hi ∈ E) → ∀ s, s ∈ l.foldl joinStep out → s.lo ∈ E ∧ s.hi ∈ E
  | [], _, h, _ => h
  | t :: l, out, h, hl => by
    refine join_ends l (joinStep out t) (fun s hs => ?_) fun s hs => hl s (List.mem_cons_of_mem _ hs)
    have ht := hl t List.mem_cons_self
    unfold joinStep at hs
    rcases nil_or_snoc out with rfl | ⟨ys, p, rfl⟩
    · simp at hs; subst hs; exact ht
    · simp only [List.getLast?_append, List.getLast?_singleton, Option.some_or, List.dropLast_concat] at hs
      have hp := h p (by simp)
      by_cases hle : t.lo ≤ p.hi
      · rw [if_pos hle] at hs
        rcases List.mem_append.1 hs with hs | hs
        · exact h s (by simp [hs])
        · simp at hs
          subst hs
          refine ⟨hp.1, ?_⟩
          show max p.hi t.hi ∈ E
          rcases Int.le_total p.hi t.hi with hm | hm
          · rw [Int.max_eq_right hm]; exact ht.2
          · rw [Int.max_eq_left hm]; exact hp.2
      · rw [if_neg hle] at hs
        rcases List.mem_append.1 hs with hs | hs
        · exact h s hs
        · simp at hs; subst hs; exact ht

theorem sep_ends : ∀ {l : List Sp}, sep l → (endsL l).Pairwise (· < ·) ∧ ∀ s l', l = s :: l' → ∀ y, y ∈ endsL l' → s.hi < y
  | [], _ => ⟨List.Pairwise.nil, fun s l' h => by cases h⟩
  | s :: l, h => by
    obtain ⟨ih, _⟩ := sep_ends h.tail
    have hfar : ∀ y, y ∈ endsL l → s.hi < y := fun y hy => by
      obtain ⟨t, ht, hy⟩ := mem_endsL.1 hy
      have h1 := (List.pairwise_cons.1 h.2).1 t ht
      have h2 := h.1 t (List.mem_cons_of_mem _ ht)
      rcases hy with rfl | rfl <;> omega
    have hs := h.1 s List.mem_cons_self
    refine ⟨?_, fun s' l' e => by cases e; exact hfar⟩
    have e : endsL (s :: l) = s.lo :: s.hi :: endsL l := by simp [endsL]
    rw [e, List.pairwise_cons, List.pairwise_cons]
    refine ⟨fun y hy => ?_, hfar, ih⟩
    rcases List.mem_cons.1 hy with rfl | hy
    · exact hs
    · have := hfar y hy; omega

theorem sep_count {l : List Sp} {e : List Int} (h : sep l) (hs : ∀ s, s ∈ l → s.lo ∈ e ∧ s.hi ∈ e) : 2 * l.length ≤ e.length := by
  have h1 := (sep_ends h).1
  have h2 : (endsL l).Nodup := h1.imp fun {a b} h => by omega
  have h3 := nodup_len h2 fun y hy => by
    obtain ⟨t, ht, hy⟩ := mem_endsL.1 hy
    rcases hy with rfl | rfl
    · exact (hs t ht).1
    · exact (hs t ht).2
  rw [endsL_length] at h3
  exact h3

/-- A set that a rule chooses has no more spans than its operands and one. -/
theorem chosen_count (f : Bool → Bool → Bool) {a b : List Sp} (ha : isSet a = true) (hb : isSet b = true) : (chosen f a b).length ≤ a.length + b.length + 1 := by
  have h := sep_count (e := edgesL a b) (chosen_spec f ha hb).1 fun s hs => by
    refine join_ends (E := edgesL a b) _ [] (fun s hs => by cases hs) (fun s hs => spansL_mem _ hs) s hs
  have := edgesL_length a b
  omega

theorem setOf_length (l : List Sp) : (setOf l).length ≤ 60 := by
  unfold setOf
  rw [made_join (setsIn_ok l)]
  have h1 := joinL_length ((setsIn l).mergeSort fun s t => decide (s.lo ≤ t.lo))
  rw [List.length_mergeSort] at h1
  have := setsIn_length l
  omega

end Go.Proofs.YtifeapnhemolgaaGreatDoor.Pl
