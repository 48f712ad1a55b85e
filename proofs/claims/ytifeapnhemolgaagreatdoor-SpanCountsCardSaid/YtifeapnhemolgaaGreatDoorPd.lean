/- The ends in order, and the pieces between them. -/
import Derived.Test.YtifeapnhemolgaaGreatDoorPc
namespace Go.Proofs.YtifeapnhemolgaaGreatDoor.Pl

/-- Numbers in order, none twice. -/
def asc (l : List Int) : Prop := l.Pairwise (· < ·)

/-- A number into its place. -/
def insL (x : Int) : List Int → List Int
  | [] => [x]
  | y :: l => if x ≤ y then (if y = x then x :: l else x :: y :: l) else y :: insL x l

theorem put_done (x : Int) : ∀ (l : List Int) (out : List Int), (∀ y, y ∈ l → y ≠ x) → l.foldl (putStep x) (out, true) = (out ++ l, true)
  | [], out, _ => by simp
  | y :: l, out, h => by
    have h1 := h y List.mem_cons_self
    have e : putStep x (out, true) y = (out ++ [y], true) := by simp [putStep, h1]
    rw [List.foldl_cons, e, put_done x l _ fun z hz => h z (List.mem_cons_of_mem _ hz)]
    simp

theorem put_ins (x : Int) : ∀ (l : List Int) (out : List Int), asc l →
    (if (l.foldl (putStep x) (out, false)).2 then (l.foldl (putStep x) (out, false)).1 else (l.foldl (putStep x) (out, false)).1 ++ [x]) = out ++ insL x l
  | [], out, _ => by simp [insL]
  | y :: l, out, h => by
    obtain ⟨h1, h2⟩ := List.pairwise_cons.1 h
    rw [List.foldl_cons]
    unfold insL
    by_cases hx : x ≤ y
    · have hd : ∀ z, z ∈ l → z ≠ x := fun z hz => by have := h1 z hz; omega
      by_cases hy : y = x
      · have e : putStep x (out, false) y = (out ++ [x], true) := by simp [putStep, hy]
        rw [e, put_done x l _ hd, if_pos hx, if_pos hy]
        simp
      · have e : putStep x (out, false) y = (out ++ [x] ++ [y], true) := by simp [putStep, hx, hy]
        rw [e, put_done x l _ hd, if_pos hx, if_neg hy]
        simp
    · have e : putStep x (out, false) y = (out ++ [y], false) := by simp [putStep, hx, show ¬ y = x by omega]
      rw [e, put_ins x l _ h2, if_neg hx]
      simp

theorem putL_ins {l : List Int} (h : asc l) (x : Int) : putL l x = insL x l := by
  have := put_ins x l [] h
  unfold putL
  simpa using this

theorem mem_insL {x y : Int} : ∀ {l : List Int}, y ∈ insL x l ↔ y = x ∨ y ∈ l
  | [] => by simp [insL]
  | z :: l => by
    unfold insL
    split
    · split
      · rename_i h; subst h; simp
      · simp
    · simp only [List.mem_cons, mem_insL (l := l)]
      constructor
      · rintro (h | h | h) <;> simp [h]
      · rintro (h | h | h) <;> simp [h]

theorem asc_insL {x : Int} : ∀ {l : List Int}, asc l → asc (insL x l)
  | [], _ => by simp [insL, asc]
  | z :: l, h => by
    obtain ⟨h1, h2⟩ := List.pairwise_cons.1 h
    unfold insL
    split
    · split
      · rename_i h3; subst h3; exact h
      · refine List.pairwise_cons.2 ⟨fun y hy => ?_, h⟩
        rcases List.mem_cons.1 hy with rfl | hy
        · omega
        · have := h1 y hy; omega
    · refine List.pairwise_cons.2 ⟨fun y hy => ?_, asc_insL h2⟩
      rcases mem_insL.1 hy with rfl | hy
      · omega
      · exact h1 y hy

theorem endsOf_spec : ∀ (l : List Sp) (e : List Int), asc e → asc (endsOf e l) ∧ ∀ y, y ∈ endsOf e l ↔ y ∈ e ∨ ∃ s, s ∈ l ∧ (y = s.lo ∨ y = s.hi)
  | [], e, h => ⟨h, fun y => by simp [endsOf]⟩
  | s :: l, e, h => by
    have h1 : asc (putL e s.lo) := by rw [putL_ins h]; exact asc_insL h
    have h2 : asc (putL (putL e s.lo) s.hi) := by rw [putL_ins h1]; exact asc_insL h1
    obtain ⟨k1, k2⟩ := endsOf_spec l _ h2
    refine ⟨k1, fun y => ?_⟩
    show y ∈ endsOf (putL (putL e s.lo) s.hi) l ↔ _
    rw [k2, putL_ins h1, mem_insL, putL_ins h, mem_insL]
    simp only [List.mem_cons]
    constructor
    · rintro ((h | h | h) | ⟨t, ht, h⟩)
      · exact .inr ⟨s, .inl rfl, .inr h⟩
      · exact .inr ⟨s, .inl rfl, .inl h⟩
      · exact .inl h
      · exact .inr ⟨t, .inr ht, h⟩
    · rintro (h | ⟨t, rfl | ht, h⟩)
      · exact .inl (.inr (.inr h))
      · rcases h with h | h
        · exact .inl (.inr (.inl h))
        · exact .inl (.inl h)
      · exact .inr ⟨t, ht, h⟩

/-! ### Pieces -/

/-- Is a number in a piece that is kept? -/
def inP (keep : Int → Bool) : List Int → Int → Bool
  | u :: v :: l, x => (keep u && decide (u ≤ x ∧ x < v)) || inP keep (v :: l) x
  | _, _ => false

theorem inP_below (keep : Int → Bool) : ∀ {e : List Int} {x : Int}, (∀ u, u ∈ e → x < u) → inP keep e x = false
  | [], _, _ => rfl
  | [_], _, _ => rfl
  | u :: v :: l, x, h => by
    have h1 := h u (by simp)
    unfold inP
    rw [inP_below keep fun w hw => h w (List.mem_cons_of_mem _ hw)]
    simp
    omega

theorem inP_above (keep : Int → Bool) : ∀ {e : List Int} {x : Int}, (∀ u, u ∈ e → u ≤ x) → inP keep e x = false
  | [], _, _ => rfl
  | [_], _, _ => rfl
  | u :: v :: l, x, h => by
    have h1 := h v (by simp)
    unfold inP
    rw [inP_above keep fun w hw => h w (List.mem_cons_of_mem _ hw)]
    simp
    omega

/-- Between the ends: the piece that the number lies in. -/
theorem inP_at (keep : Int → Bool) : ∀ {e : List Int} {x : Int}, asc e → (∃ u, u ∈ e ∧ u ≤ x) → (∃ v, v ∈ e ∧ x < v) → ∃ u, u ∈ e ∧ u ≤ x ∧ (∀ w, w ∈ e → w ≤ u ∨ x < w) ∧ inP keep e x = keep u
  | [], _, _, ⟨u, hu, _⟩, _ => by cases hu
  | [a], x, _, ⟨u, hu, h1⟩, ⟨v, hv, h2⟩ => by simp at hu hv; omega
  | a :: b :: l, x, h, ⟨u, hu, h1⟩, ⟨v, hv, h2⟩ => by
    obtain ⟨k1, k2⟩ := List.pairwise_cons.1 h
    have ha : a ≤ x := by
      rcases List.mem_cons.1 hu with rfl | hu
      · exact h1
      · have := k1 u hu; omega
    by_cases hb : b ≤ x
    · obtain ⟨u', hu', m1, m2, m3⟩ := inP_at keep k2 ⟨b, by simp, hb⟩ ⟨v, by
        rcases List.mem_cons.1 hv with rfl | hv
        · omega
        · exact hv, h2⟩
      refine ⟨u', List.mem_cons_of_mem _ hu', m1, fun w hw => ?_, ?_⟩
      · rcases List.mem_cons.1 hw with rfl | hw
        · have := k1 u' hu'; omega
        · exact m2 w hw
      · unfold inP
        rw [m3]
        simp
        omega
    · obtain ⟨j1, j2⟩ := List.pairwise_cons.1 k2
      have far : ∀ w, w ∈ b :: l → x < w := fun w hw => by
        rcases List.mem_cons.1 hw with rfl | hw
        · omega
        · have := j1 w hw; omega
      refine ⟨a, by simp, ha, fun w hw => ?_, ?_⟩
      · rcases List.mem_cons.1 hw with rfl | hw
        · exact .inl (Int.le_refl _)
        · exact .inr (far w hw)
      · unfold inP
        rw [inP_below keep far]
        simp [ha]
        omega

/-- No end of a list lies behind u up to x: so both or none are in it. -/
theorem inB_same {a : List Sp} {e : List Int} {u x : Int} (he : ∀ s, s ∈ a → s.lo ∈ e ∧ s.hi ∈ e) (hu : u ≤ x) (hw : ∀ w, w ∈ e → w ≤ u ∨ x < w) : inB a u = inB a x := by
  unfold inB
  rw [Bool.eq_iff_iff, List.any_eq_true, List.any_eq_true]
  constructor
  · rintro ⟨s, hs, h⟩
    refine ⟨s, hs, ?_⟩
    have h1 := hw _ (he s hs).1
    have h2 := hw _ (he s hs).2
    simp only [decide_eq_true_eq] at h ⊢
    omega
  · rintro ⟨s, hs, h⟩
    refine ⟨s, hs, ?_⟩
    have h1 := hw _ (he s hs).1
    have h2 := hw _ (he s hs).2
    simp only [decide_eq_true_eq] at h ⊢
    omega

theorem inB_out {a : List Sp} {e : List Int} {x : Int} (he : ∀ s, s ∈ a → s.lo ∈ e ∧ s.hi ∈ e) (h : ¬ ((∃ u, u ∈ e ∧ u ≤ x) ∧ ∃ v, v ∈ e ∧ x < v)) : inB a x = false := by
  cases hx : inB a x with
  | false => rfl
  | true =>
    obtain ⟨s, hs, h1, h2⟩ := inB_iff.1 hx
    exact (h ⟨⟨_, (he s hs).1, h1⟩, ⟨_, (he s hs).2, h2⟩⟩).elim

theorem inP_out (keep : Int → Bool) {e : List Int} {x : Int} (h : ¬ ((∃ u, u ∈ e ∧ u ≤ x) ∧ ∃ v, v ∈ e ∧ x < v)) : inP keep e x = false := by
  by_cases h1 : ∃ u, u ∈ e ∧ u ≤ x
  · refine inP_above keep fun u hu => ?_
    rcases Int.lt_or_le x u with h2 | h2
    · exact (h ⟨h1, u, hu, h2⟩).elim
    · exact h2
  · refine inP_below keep fun u hu => ?_
    rcases Int.lt_or_le x u with h2 | h2
    · exact h2
    · exact (h1 ⟨u, hu, h2⟩).elim

/-- Pieces kept by a rule on both lists, all ends being among the ends. -/
theorem inP_two (f : Bool → Bool → Bool) {a b : List Sp} {e : List Int} (h : asc e) (ha : ∀ s, s ∈ a → s.lo ∈ e ∧ s.hi ∈ e) (hb : ∀ s, s ∈ b → s.lo ∈ e ∧ s.hi ∈ e) (x : Int) :
    ((∃ u, u ∈ e ∧ u ≤ x) ∧ ∃ v, v ∈ e ∧ x < v) → inP (fun u => f (inB a u) (inB b u)) e x = f (inB a x) (inB b x) := by
  rintro ⟨h1, h2⟩
  obtain ⟨u, hu, k1, k2, k3⟩ := inP_at (fun u => f (inB a u) (inB b u)) h h1 h2
  rw [k3, inB_same ha k1 k2, inB_same hb k1 k2]

/-! ### The specification's pieces -/

theorem madeStep_spec {out : List Sp} {x y : Int} (h : sep out) (hs : x < y) (hl : ∀ p, p ∈ out → p.hi ≤ x) :
    sep (madeStep out x y) ∧ (∀ z, inB (madeStep out x y) z = (inB out z || decide (x ≤ z ∧ z < y))) ∧ ∀ p, p ∈ madeStep out x y → p.hi ≤ y := by
  unfold madeStep
  rcases nil_or_snoc out with rfl | ⟨ys, p, rfl⟩
  · simp only [List.getLast?_nil]
    exact ⟨⟨by simpa using hs, by simp⟩, fun x => by simp [inB], fun p hp => by simp at hp; subst hp; simp⟩
  · obtain ⟨h1, h2, h3⟩ := sep_snoc_iff.1 h
    have hp := hl p (by simp)
    have e : (ys ++ [p]).set ((ys ++ [p]).length - 1) ⟨p.lo, y⟩ = ys ++ [⟨p.lo, y⟩] := by simp
    simp only [List.getLast?_append, List.getLast?_singleton, Option.some_or, e]
    by_cases hle : p.hi = x
    · rw [if_pos hle]
      refine ⟨sep_snoc h1 (by simp; omega) h3, fun z => ?_, fun q hq => ?_⟩
      · rw [inB_append, inB_append, inB_one, inB_one, Bool.or_assoc]
        congr 1
        rw [← Bool.decide_or]
        apply decide_eq_decide.2
        simp only
        omega
      · rcases List.mem_append.1 hq with hq | hq
        · have := hl q (by simp [hq]); omega
        · simp at hq; subst hq; simp
    · rw [if_neg hle]
      refine ⟨sep_snoc h hs fun q hq => ?_, fun z => by rw [inB_append, inB_one], fun q hq => ?_⟩
      · simp only
        rcases List.mem_append.1 hq with hq | hq
        · have := h3 q hq; omega
        · simp at hq; subst hq; omega
      · rcases List.mem_append.1 hq with hq | hq
        · have := hl q hq; omega
        · simp at hq; subst hq; simp

theorem piecesL_spec (keep : Int → Bool) : ∀ (e : List Int) (out : List Sp), asc e → sep out → (∀ p, p ∈ out → ∀ u, u ∈ e → p.hi ≤ u) →
    sep (piecesL keep e out) ∧ ∀ x, inB (piecesL keep e out) x = (inB out x || inP keep e x)
  | [], out, _, h, _ => ⟨h, fun x => by simp [piecesL, inP]⟩
  | [_], out, _, h, _ => ⟨h, fun x => by simp [piecesL, inP]⟩
  | u :: v :: l, out, he, h, hl => by
    obtain ⟨k1, k2⟩ := List.pairwise_cons.1 he
    have huv := k1 v (by simp)
    by_cases hk : keep u = true
    · obtain ⟨m1, m2, m3⟩ := madeStep_spec h huv (fun p hp => hl p hp u (by simp))
      obtain ⟨j1, j2⟩ := piecesL_spec keep (v :: l) (madeStep out u v) k2 m1 (fun p hp w hw => by
        have h1 := m3 p hp
        rcases List.mem_cons.1 hw with rfl | hw
        · exact h1
        · have := (List.pairwise_cons.1 k2).1 w hw; omega)
      have e : piecesL keep (u :: v :: l) out = piecesL keep (v :: l) (madeStep out u v) := by simp [piecesL, hk]
      rw [e]
      exact ⟨j1, fun x => by rw [j2, m2]; simp [inP, hk, Bool.or_assoc]⟩
    · obtain ⟨j1, j2⟩ := piecesL_spec keep (v :: l) out k2 h (fun p hp w hw => hl p hp w (List.mem_cons_of_mem _ hw))
      have e : piecesL keep (u :: v :: l) out = piecesL keep (v :: l) out := by simp [piecesL, hk]
      rw [e]
      exact ⟨j1, fun x => by rw [j2]; simp [inP, hk]⟩

theorem madeL_spec (kind : Nat) (a b : List Sp) : sep (madeL kind a b) ∧ ∀ x, inB (madeL kind a b) x = keepB kind (inB a x) (inB b x) := by
  obtain ⟨h1, h2⟩ := endsOf_spec a [] (by simp [asc])
  obtain ⟨k1, k2⟩ := endsOf_spec b _ h1
  have ha : ∀ s, s ∈ a → s.lo ∈ endsOf (endsOf [] a) b ∧ s.hi ∈ endsOf (endsOf [] a) b := fun s hs =>
    ⟨(k2 _).2 (.inl ((h2 _).2 (.inr ⟨s, hs, .inl rfl⟩))), (k2 _).2 (.inl ((h2 _).2 (.inr ⟨s, hs, .inr rfl⟩)))⟩
  have hb : ∀ s, s ∈ b → s.lo ∈ endsOf (endsOf [] a) b ∧ s.hi ∈ endsOf (endsOf [] a) b := fun s hs =>
    ⟨(k2 _).2 (.inr ⟨s, hs, .inl rfl⟩), (k2 _).2 (.inr ⟨s, hs, .inr rfl⟩)⟩
  obtain ⟨j1, j2⟩ := piecesL_spec (fun x => keepB kind (inB a x) (inB b x)) _ [] k1 sep_nil (by simp)
  refine ⟨j1, fun x => ?_⟩
  rw [madeL, j2, inB_nil, Bool.false_or]
  by_cases h : (∃ u, u ∈ endsOf (endsOf [] a) b ∧ u ≤ x) ∧ ∃ v, v ∈ endsOf (endsOf [] a) b ∧ x < v
  · exact inP_two (keepB kind) k1 ha hb x h
  · rw [inP_out _ h, inB_out ha h, inB_out hb h]
    unfold keepB
    split <;> rfl

/-! ### The program's pieces -/

/-- The pieces that a rule keeps, as they come. -/
def spansL (keep : Int → Bool) : List Int → List Sp
  | u :: v :: l => (if keep u then [⟨u, v⟩] else []) ++ spansL keep (v :: l)
  | _ => []

theorem spansL_mem (keep : Int → Bool) : ∀ {e : List Int} {s : Sp}, s ∈ spansL keep e → s.lo ∈ e ∧ s.hi ∈ e
  | [], _, h => by cases h
  | [_], _, h => by cases h
  | u :: v :: l, s, h => by
    unfold spansL at h
    rcases List.mem_append.1 h with h | h
    · split at h
      · simp at h; subst h; simp
      · cases h
    · have := spansL_mem keep h
      exact ⟨List.mem_cons_of_mem _ this.1, List.mem_cons_of_mem _ this.2⟩

theorem spansL_spec (keep : Int → Bool) : ∀ {e : List Int}, asc e → (∀ s, s ∈ spansL keep e → s.lo < s.hi) ∧ (spansL keep e).Pairwise (fun s t => s.lo ≤ t.lo) ∧ ∀ x, inB (spansL keep e) x = inP keep e x
  | [], _ => by simp [spansL, inB, inP]
  | [_], _ => by simp [spansL, inB, inP]
  | u :: v :: l, he => by
    obtain ⟨k1, k2⟩ := List.pairwise_cons.1 he
    have huv := k1 v (by simp)
    obtain ⟨h1, h2, h3⟩ := spansL_spec keep k2
    unfold spansL
    by_cases hk : keep u = true
    · simp only [hk, if_true, List.singleton_append]
      refine ⟨fun s hs => ?_, List.pairwise_cons.2 ⟨fun s hs => ?_, h2⟩, fun x => ?_⟩
      · rcases List.mem_cons.1 hs with rfl | hs
        · exact huv
        · exact h1 s hs
      · have := k1 _ (spansL_mem keep hs).1
        simp only
        omega
      · rw [inB_cons, h3]; simp [inP, hk]
    · have hk : keep u = false := by simpa using hk
      simp only [hk, Bool.false_eq_true, if_false, List.nil_append]
      exact ⟨h1, h2, fun x => by rw [h3]; simp [inP, hk]⟩

/-- What the program makes of two sets by a rule, the ends given. -/
def chosenL (f : Bool → Bool → Bool) (a b : List Sp) (e : List Int) : List Sp := joinL (spansL (fun u => f (inB a u) (inB b u)) e)

/-- All ends, and those of the whole; nothing but these. -/
def isEnds (a b : List Sp) (e : List Int) : Prop := asc e ∧ ∀ y, y ∈ e ↔ (y = -1099511627776 ∨ y = 1099511627776) ∨ (∃ s, s ∈ a ∧ (y = s.lo ∨ y = s.hi)) ∨ ∃ s, s ∈ b ∧ (y = s.lo ∨ y = s.hi)

theorem chosenL_spec (f : Bool → Bool → Bool) {a b : List Sp} {e : List Int} (h : isEnds a b e) (ha : ∀ s, s ∈ a → s.ok = true) (hb : ∀ s, s ∈ b → s.ok = true) :
    sep (chosenL f a b e) ∧ ∀ x, inB (chosenL f a b e) x = (inW x && f (inB a x) (inB b x)) := by
  obtain ⟨h1, h2, h3⟩ := spansL_spec (fun u => f (inB a u) (inB b u)) h.1
  obtain ⟨k1, k2⟩ := joinL_spec h1 h2
  refine ⟨k1, fun x => ?_⟩
  rw [chosenL, k2, h3]
  have hA : ∀ s, s ∈ a → s.lo ∈ e ∧ s.hi ∈ e := fun s hs => ⟨(h.2 _).2 (.inr (.inl ⟨s, hs, .inl rfl⟩)), (h.2 _).2 (.inr (.inl ⟨s, hs, .inr rfl⟩))⟩
  have hB : ∀ s, s ∈ b → s.lo ∈ e ∧ s.hi ∈ e := fun s hs => ⟨(h.2 _).2 (.inr (.inr ⟨s, hs, .inl rfl⟩)), (h.2 _).2 (.inr (.inr ⟨s, hs, .inr rfl⟩))⟩
  have hin : ∀ y, y ∈ e → -1099511627776 ≤ y ∧ y ≤ 1099511627776 := fun y hy => by
    rcases (h.2 y).1 hy with (rfl | rfl) | ⟨s, hs, h⟩ | ⟨s, hs, h⟩
    · decide
    · decide
    · have := ok_bounds (ha s hs); omega
    · have := ok_bounds (hb s hs); omega
  by_cases hx : inW x = true
  · have hx' := hx
    simp only [inW, decide_eq_true_eq] at hx'
    rw [hx, Bool.true_and]
    exact inP_two f h.1 hA hB x ⟨⟨_, (h.2 _).2 (.inl (.inl rfl)), hx'.1⟩, ⟨_, (h.2 _).2 (.inl (.inr rfl)), hx'.2⟩⟩
  · have hx' : inW x = false := by simpa using hx
    rw [hx', Bool.false_and]
    refine inP_out _ ?_
    rintro ⟨⟨u, hu, h1⟩, v, hv, h2⟩
    have := hin u hu
    have := hin v hv
    simp only [inW, decide_eq_true_eq] at hx
    omega

/-- The program's set is the specification's. -/
theorem chosen_made {kind : Nat} {a b : List Sp} {e : List Int} (h : isEnds a b e) (ha : ∀ s, s ∈ a → s.ok = true) (hb : ∀ s, s ∈ b → s.ok = true) : chosenL (keepB kind) a b e = madeL kind a b := by
  obtain ⟨h1, h2⟩ := chosenL_spec (keepB kind) h ha hb
  obtain ⟨k1, k2⟩ := madeL_spec kind a b
  refine h1.unique k1 fun x => ?_
  rw [h2, k2]
  have hin : ∀ (l : List Sp), (∀ s, s ∈ l → s.ok = true) → inW x = false → inB l x = false := fun l hl hx => by
    cases hy : inB l x with
    | false => rfl
    | true =>
      obtain ⟨s, hs, g1, g2⟩ := inB_iff.1 hy
      have := ok_bounds (hl s hs)
      simp only [inW, decide_eq_false_iff_not] at hx
      omega
  cases hx : inW x with
  | true => rfl
  | false =>
    rw [hin a ha hx, hin b hb hx]
    unfold keepB
    split <;> rfl

theorem chosen_not {a : List Sp} {e : List Int} (h : isEnds a [] e) (ha : ∀ s, s ∈ a → s.ok = true) : chosenL (fun p _ => !p) a [] e = madeL 2 [⟨-1099511627776, 1099511627776⟩] a := by
  obtain ⟨h1, h2⟩ := chosenL_spec (fun p _ => !p) h ha (by simp)
  obtain ⟨k1, k2⟩ := madeL_spec 2 [⟨-1099511627776, 1099511627776⟩] a
  refine h1.unique k1 fun x => ?_
  rw [h2, k2, inB_one]
  rfl

end Go.Proofs.YtifeapnhemolgaaGreatDoor.Pl
