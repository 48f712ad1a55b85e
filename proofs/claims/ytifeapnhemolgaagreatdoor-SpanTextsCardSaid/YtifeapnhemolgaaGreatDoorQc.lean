/- Counting, plain: sizes include and exclude; the number of a rank has that rank. -/
import Derived.Test.YtifeapnhemolgaaGreatDoorPh
namespace Go.Proofs.YtifeapnhemolgaaGreatDoor.Pl

theorem rankP_cons (x : Int) (s : Sp) (l : List Sp) : rankP x (s :: l) = rankS x s + rankP x l := by simp [rankP]

/-- How many numbers from lo on, n of them, a rule takes. -/
def cnt (f : Int → Bool) (lo : Int) : Nat → Int
  | 0 => 0
  | n + 1 => cnt f lo n + if f (lo + n) then 1 else 0

theorem cnt_congr {f g : Int → Bool} {lo : Int} : ∀ {n : Nat}, (∀ x, lo ≤ x → x < lo + n → f x = g x) → cnt f lo n = cnt g lo n
  | 0, _ => rfl
  | n + 1, h => by
    rw [cnt, cnt, cnt_congr (n := n) fun x h1 h2 => h x h1 (by omega), h (lo + n) (by omega) (by omega)]

theorem cnt_or_and (f g : Int → Bool) (lo : Int) : ∀ n : Nat, cnt (fun x => f x || g x) lo n + cnt (fun x => f x && g x) lo n = cnt f lo n + cnt g lo n
  | 0 => rfl
  | n + 1 => by
    have ih := cnt_or_and f g lo n
    simp only [cnt]
    by_cases hf : f (lo + n) = true <;> by_cases hg : g (lo + n) = true <;> simp [hf, hg] <;> omega

theorem cnt_none (lo : Int) : ∀ n : Nat, cnt (fun _ => false) lo n = 0
  | 0 => rfl
  | n + 1 => by rw [cnt, cnt_none lo n]; rfl

theorem cnt_span (s : Sp) (h : s.ok = true) : ∀ n : Nat, cnt (fun x => decide (s.lo ≤ x ∧ x < s.hi)) (-1099511627776) n = rankS (-1099511627776 + n) s
  | 0 => by
    have := ok_bounds h
    unfold rankS
    rw [if_neg (by simp; omega)]
    rfl
  | n + 1 => by
    have := ok_bounds h
    have e : cnt (fun x => decide (s.lo ≤ x ∧ x < s.hi)) (-1099511627776) (n + 1) = cnt (fun x => decide (s.lo ≤ x ∧ x < s.hi)) (-1099511627776) n + if s.lo ≤ -1099511627776 + (n : Int) ∧ -1099511627776 + (n : Int) < s.hi then 1 else 0 := by simp [cnt]
    rw [e, cnt_span s h n]
    unfold rankS
    by_cases h1 : s.lo < -1099511627776 + (n : Int)
    · rw [if_pos h1, if_pos (show s.lo < -1099511627776 + ((n + 1 : Nat) : Int) by omega)]
      by_cases h2 : -1099511627776 + (n : Int) < s.hi
      · rw [if_pos ⟨by omega, h2⟩]; omega
      · rw [if_neg (by omega)]; omega
    · rw [if_neg h1]
      by_cases h3 : s.lo = -1099511627776 + (n : Int)
      · rw [if_pos ⟨by omega, by omega⟩, if_pos (show s.lo < -1099511627776 + ((n + 1 : Nat) : Int) by omega)]; omega
      · rw [if_neg (by omega), if_neg (by omega)]; rfl

theorem cnt_set : ∀ {l : List Sp}, sep l → (∀ s ∈ l, s.ok = true) → ∀ n : Nat, cnt (inB l) (-1099511627776) n = rankP (-1099511627776 + n) l
  | [], _, _, n => by
    have : inB ([] : List Sp) = fun _ => false := rfl
    rw [this, cnt_none]
    rfl
  | s :: l, hs, ho, n => by
    have ih := cnt_set hs.tail (fun t ht => ho t (List.mem_cons_of_mem _ ht)) n
    have h1 := cnt_or_and (fun x => decide (s.lo ≤ x ∧ x < s.hi)) (inB l) (-1099511627776) n
    rw [cnt_span s (ho s List.mem_cons_self) n, ih] at h1
    have e1 : cnt (inB (s :: l)) (-1099511627776) n = cnt (fun x => decide (s.lo ≤ x ∧ x < s.hi) || inB l x) (-1099511627776) n := cnt_congr fun x _ _ => inB_cons s l x
    have e2 : cnt (fun x => decide (s.lo ≤ x ∧ x < s.hi) && inB l x) (-1099511627776) n = 0 := by
      rw [cnt_congr (g := fun _ => false) fun x _ _ => ?_, cnt_none]
      by_cases hx : s.lo ≤ x ∧ x < s.hi
      · cases hl : inB l x with
        | false => simp
        | true =>
          obtain ⟨t, ht, h3, h4⟩ := inB_iff.1 hl
          have := (List.pairwise_cons.1 hs.2).1 t ht
          omega
      · simp [hx]
    rw [rankP_cons, e1]
    omega

def sizeP (l : List Sp) : Int := rankP 1099511627776 l

theorem size_cnt {l : List Sp} (h : isSet l = true) : sizeP l = cnt (inB l) (-1099511627776) 2199023255552 := by
  rw [cnt_set (set_sep h).1 (set_sep h).2.2.1]
  rfl

/-- Sizes include and exclude. -/
theorem size_or_and {a b u v : List Sp} (ha : isSet a = true) (hb : isSet b = true) (hu : isSet u = true) (hv : isSet v = true)
    (eu : ∀ x, inB u x = (inB a x || inB b x)) (ev : ∀ x, inB v x = (inB a x && inB b x)) : sizeP u + sizeP v = sizeP a + sizeP b := by
  rw [size_cnt ha, size_cnt hb, size_cnt hu, size_cnt hv, ← cnt_or_and (inB a) (inB b)]
  rw [cnt_congr fun x _ _ => eu x, cnt_congr fun x _ _ => ev x]

/-- The number with so many smaller ones. -/
def nthL : List Sp → Int → Option Int
  | [], _ => none
  | s :: l, i => if i < s.hi - s.lo then some (s.lo + i) else nthL l (i - (s.hi - s.lo))

theorem sizeP_cons {s : Sp} {l : List Sp} (h : s.ok = true) : sizeP (s :: l) = (s.hi - s.lo) + sizeP l := by
  have := ok_bounds h
  unfold sizeP
  rw [rankP_cons]
  unfold rankS
  rw [if_pos (by omega)]
  omega

theorem nth_none : ∀ {l : List Sp}, (∀ s ∈ l, s.ok = true) → ∀ i, 0 ≤ i → (nthL l i = none ↔ sizeP l ≤ i)
  | [], _, i, h0 => by simp [nthL, sizeP, rankP]; exact h0
  | s :: l, ho, i, h0 => by
    have hs := ho s List.mem_cons_self
    have := ok_bounds hs
    have hr := (rankP_le (fun t ht => ho t (List.mem_cons_of_mem _ ht)) 1099511627776).1
    rw [nthL, sizeP_cons hs]
    by_cases h : i < s.hi - s.lo
    · rw [if_pos h]
      unfold sizeP
      constructor
      · intro e; cases e
      · intro e; omega
    · rw [if_neg h, nth_none (fun t ht => ho t (List.mem_cons_of_mem _ ht)) (i - (s.hi - s.lo)) (by omega)]
      omega

theorem rank_low : ∀ {l : List Sp} {x : Int}, (∀ s ∈ l, x ≤ s.lo) → rankP x l = 0
  | [], _, _ => rfl
  | s :: l, x, h => by
    have h1 := h s List.mem_cons_self
    rw [rankP_cons, rank_low fun t ht => h t (List.mem_cons_of_mem _ ht)]
    unfold rankS
    rw [if_neg (by omega)]
    rfl

theorem in_low {l : List Sp} {x : Int} (h : ∀ s ∈ l, x < s.lo) : inB l x = false := by
  cases hx : inB l x with
  | false => rfl
  | true =>
    obtain ⟨t, ht, h3, _⟩ := inB_iff.1 hx
    have := h t ht
    omega

/-- The number of a number's rank is the next one of the set. -/
theorem nth_rank : ∀ {l : List Sp}, sep l → (∀ s ∈ l, s.ok = true) → ∀ x y, nthL l (rankP x l) = some y → x ≤ y ∧ (inB l x = true → y = x)
  | [], _, _, x, y, h => by cases h
  | s :: l, hs, ho, x, y, h => by
    have hok := ho s List.mem_cons_self
    have hb := ok_bounds hok
    have hp := (List.pairwise_cons.1 hs.2).1
    rw [nthL, rankP_cons] at h
    rw [inB_cons]
    by_cases h1 : x < s.hi
    · have hl : rankP x l = 0 := rank_low fun t ht => by have := hp t ht; omega
      have hi : inB l x = false := in_low fun t ht => by have := hp t ht; omega
      rw [hl, Int.add_zero] at h
      rw [hi, Bool.or_false, decide_eq_true_eq]
      unfold rankS at h
      by_cases h2 : s.lo < x
      · rw [if_pos h2, if_pos (by omega)] at h
        have := Option.some.inj h
        omega
      · rw [if_neg h2, if_pos (by omega)] at h
        have := Option.some.inj h
        omega
    · have hr := (rankP_le (fun t ht => ho t (List.mem_cons_of_mem _ ht)) x).1
      have e : rankS x s = s.hi - s.lo := by unfold rankS; rw [if_pos (by omega)]; omega
      rw [e, if_neg (by omega), show s.hi - s.lo + rankP x l - (s.hi - s.lo) = rankP x l by omega] at h
      rw [decide_eq_false (by omega), Bool.false_or]
      exact nth_rank hs.tail (fun t ht => ho t (List.mem_cons_of_mem _ ht)) x y h

/-- A number that is found has its rank and is in the set. -/
theorem rank_nth : ∀ {l : List Sp}, sep l → (∀ s ∈ l, s.ok = true) → ∀ i z, 0 ≤ i → nthL l i = some z → rankP z l = i ∧ inB l z = true
  | [], _, _, i, z, _, h => by cases h
  | s :: l, hs, ho, i, z, h0, h => by
    have hok := ho s List.mem_cons_self
    have hb := ok_bounds hok
    have hp := (List.pairwise_cons.1 hs.2).1
    rw [nthL] at h
    rw [inB_cons, rankP_cons]
    by_cases h1 : i < s.hi - s.lo
    · rw [if_pos h1] at h
      have hz := Option.some.inj h
      have hl : rankP z l = 0 := rank_low fun t ht => by have := hp t ht; omega
      rw [hl, decide_eq_true (by omega), Bool.true_or]
      refine ⟨?_, rfl⟩
      unfold rankS
      split <;> omega
    · rw [if_neg h1] at h
      obtain ⟨h2, h3⟩ := rank_nth hs.tail (fun t ht => ho t (List.mem_cons_of_mem _ ht)) _ z (by omega) h
      obtain ⟨t, ht, h4, h5⟩ := inB_iff.1 h3
      have := hp t ht
      rw [h2, h3, Bool.or_true]
      refine ⟨?_, rfl⟩
      unfold rankS
      rw [if_pos (by omega)]
      omega

end Go.Proofs.YtifeapnhemolgaaGreatDoor.Pl
