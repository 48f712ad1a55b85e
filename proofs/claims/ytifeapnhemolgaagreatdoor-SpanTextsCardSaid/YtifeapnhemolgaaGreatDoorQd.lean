/- What the reference's Digits, Number and Parse reckon, plain. -/
import Derived.Test.YtifeapnhemolgaaGreatDoorQb
namespace Go.Proofs.YtifeapnhemolgaaGreatDoor.Pl
open Go Go.Lib

/-- What Digits comes to from a number that is left and the digits behind it. -/
def digF (m : Int) (out : List UInt8) : List UInt8 := if m = 0 ∧ out ≠ [] then out else decDigits m.natAbs ++ out

theorem digF_end {out : List UInt8} (h : out ≠ []) : digF 0 out = out := if_pos ⟨rfl, h⟩

theorem digF_start (m : Int) : digF m [] = decDigits m.natAbs := by
  unfold digF
  rw [if_neg (by simp), List.append_nil]

theorem digF_step (m : Int) (out : List UInt8) (h : m ≠ 0 ∨ out = []) : digF (m.tdiv 10) (UInt8.ofNat (48 + (m.tmod 10).natAbs) :: out) = digF m out := by
  have e1 : (m.tdiv 10).natAbs = m.natAbs / 10 := by rw [Int.natAbs_tdiv]; rfl
  have e2 : (m.tmod 10).natAbs = m.natAbs % 10 := by rw [Int.natAbs_tmod]; rfl
  have er : digF m out = decDigits m.natAbs ++ out := by
    unfold digF
    rw [if_neg]
    rintro ⟨h1, h2⟩
    rcases h with h | h
    · exact h h1
    · exact h2 h
  rw [er]
  by_cases hs : m.natAbs < 10
  · have h0 : m.tdiv 10 = 0 := by
      have : (m.tdiv 10).natAbs = 0 := by rw [e1]; omega
      omega
    have h1 : m.natAbs % 10 = m.natAbs := Nat.mod_eq_of_lt hs
    rw [h0, digF_end (by simp), e2, h1]
    conv => rhs; rw [decDigits]
    rw [dif_pos hs]
    rfl
  · have h0 : m.tdiv 10 ≠ 0 := by
      intro e
      have : (m.tdiv 10).natAbs = 0 := by rw [e]; rfl
      rw [e1] at this
      omega
    unfold digF
    rw [if_neg (fun h => h0 h.1), e1, e2]
    conv => rhs; rw [decDigits]
    rw [dif_neg hs, List.append_assoc]
    rfl

theorem itoa_neg {n : Int} (h : n < 0) : itoa n = 45 :: decDigits n.natAbs := by
  unfold itoa
  rw [if_pos h]

theorem itoa_pos {n : Int} (h : ¬ n < 0) : itoa n = decDigits n.natAbs := by
  unfold itoa
  rw [if_neg h]
  congr 1
  omega

/-! ### Number -/

/-- A run of digits behind a number. -/
def runF : List UInt8 → Int → Option Int
  | [], n => some n
  | b :: r, n => if 48 ≤ b.toNat ∧ b.toNat ≤ 57 then runF r (10 * n + ((b.toNat : Int) - 48)) else none

/-- What Number's loop comes to. -/
def scanF (l : List UInt8) : Option Int := match l with
  | 45 :: r => (runF r 0).map fun n => -1 * n
  | r => (runF r 0).map fun n => 1 * n

/-- What Number returns. -/
def numO (l : List UInt8) : Option Int := if 17 < l.length then none else scanF l
def numV (l : List UInt8) : Int := (numO l).getD 0
def numB (l : List UInt8) : Bool := match numO l with
  | none => false
  | some n => itoa n == l

theorem runF_dec : ∀ (l : List UInt8) (acc n : Nat), decFrom acc l = some n → runF l acc = some (n : Int)
  | [], acc, n, h => by
    simp only [decFrom, Option.some.injEq] at h
    simp [runF, h]
  | b :: r, acc, n, h => by
    simp only [decFrom] at h
    unfold digitVal at h
    by_cases hb : 48 ≤ b.toNat ∧ b.toNat ≤ 57
    · rw [if_pos hb] at h
      simp only at h
      have ih := runF_dec r _ n h
      rw [runF, if_pos hb]
      rw [show 10 * (acc : Int) + ((b.toNat : Int) - 48) = ((acc * 10 + (b.toNat - 48) : Nat) : Int) by omega]
      exact ih
    · rw [if_neg hb] at h
      simp at h

theorem runF_digits (u : Nat) : runF (decDigits u) 0 = some (u : Int) := runF_dec _ 0 u (decDigits_reads u)

theorem scanF_itoa (n : Int) : scanF (itoa n) = some n := by
  by_cases h : n < 0
  · rw [itoa_neg h]
    unfold scanF
    simp only [runF_digits, Option.map_some, Option.some.injEq]
    omega
  · rw [itoa_pos h]
    have hb := decDigits_bytes n.natAbs
    have hr := runF_digits n.natAbs
    cases hl : decDigits n.natAbs with
    | nil => exact absurd hl (decDigits_ne _)
    | cons b r =>
      rw [hl] at hb hr
      have h1 := hb b (by simp)
      unfold scanF
      split
      · rename_i e
        cases e
        simp at h1
      · rw [hr]
        simp
        omega

theorem num_itoa (n : Int) (h0 : -1099511627776 ≤ n) (h1 : n ≤ 1099511627776) : numV (itoa n) = n ∧ numB (itoa n) = true := by
  have h : numO (itoa n) = some n := by
    unfold numO
    rw [if_neg (by have := itoa_length n h0 h1; omega), scanF_itoa]
  unfold numV numB
  rw [h]
  simp

/-! ### The first two points in a row -/

theorem index_le (l sep : List UInt8) : index l sep ≤ l.length := by
  induction l with
  | nil => unfold index; split <;> simp
  | cons b l ih =>
    rw [index]
    split
    · simp; omega
    · simp only [List.length_cons]
      split <;> omega

/-- Two points at the head. -/
def pointsAt (l : List UInt8) : Bool := match l with
  | a :: b :: _ => a == 46 && b == 46
  | _ => false

theorem points_prefix (l : List UInt8) : List.isPrefixOf [46, 46] l = pointsAt l := by
  rcases l with _ | ⟨a, _ | ⟨b, r⟩⟩
  · rfl
  · simp [List.isPrefixOf, pointsAt]
  · show ((46 : UInt8) == a && ((46 : UInt8) == b && true)) = (a == 46 && b == 46)
    rw [Bool.and_true, Bool.beq_comm (a := a), Bool.beq_comm (a := b)]

theorem dots_here {l : List UInt8} {k : Nat} (h : pointsAt (l.drop k) = true) : index (l.drop k) [46, 46] = 0 := by
  cases hl : l.drop k with
  | nil => rw [hl] at h; simp [pointsAt] at h
  | cons b r => rw [index, if_pos (by rw [points_prefix, ← hl]; exact h)]

theorem index_ge (l sep : List UInt8) : -1 ≤ index l sep := by
  induction l with
  | nil => unfold index; split <;> decide
  | cons b l ih =>
    rw [index]
    split
    · decide
    · by_cases h : index l sep = -1
      · simp [h]
      · simp only [beq_iff_eq, h, if_false]
        omega

theorem dots_next {l : List UInt8} {k : Nat} (hk : k < l.length) (h : pointsAt (l.drop k) = false) :
    index (l.drop k) [46, 46] = if index (l.drop (k + 1)) [46, 46] < 0 then -1 else 1 + index (l.drop (k + 1)) [46, 46] := by
  rw [List.drop_eq_getElem_cons hk] at h ⊢
  rw [index, if_neg (by rw [points_prefix, h]; decide)]
  have h0 := index_ge (l.drop (k + 1)) [46, 46]
  by_cases h1 : index (l.drop (k + 1)) [46, 46] = -1
  · simp [h1]
  · simp only [beq_iff_eq, h1, if_false]
    rw [if_neg (by omega)]
    omega

theorem dots_end {l : List UInt8} {k : Nat} (hk : l.length ≤ k + 1) : index (l.drop k) [46, 46] = -1 := by
  have h : (l.drop k).length ≤ 1 := by rw [List.length_drop]; omega
  rcases hl : l.drop k with _ | ⟨a, _ | ⟨b, r⟩⟩
  · simp [index]
  · simp [index, List.isPrefixOf]
  · rw [hl] at h; simp at h

/-- Where the first two points stand; -1: nowhere. -/
def dotsF (l : List UInt8) : Int := index l [46, 46]

theorem dots_bound (l : List UInt8) (h : 0 ≤ dotsF l) : dotsF l + 2 ≤ l.length := by
  unfold dotsF at *
  induction l with
  | nil => simp [index] at h
  | cons b l ih =>
    rw [index] at h ⊢
    by_cases hp : List.isPrefixOf [46, 46] (b :: l) = true
    · rw [if_pos hp]
      rcases l with _ | ⟨c, r⟩
      · simp [List.isPrefixOf] at hp
      · simp; omega
    · rw [if_neg hp] at h ⊢
      by_cases h1 : index l [46, 46] = -1
      · simp [h1] at h
      · simp only [beq_iff_eq, h1, if_false] at h ⊢
        have := ih (by omega)
        simp only [List.length_cons]
        omega

theorem dots_word (s : Sp) : dotsF (wordL s) = (itoa s.lo).length := index_points _ _ (itoa_no_point _)

theorem word_take (s : Sp) : (wordL s).take (itoa s.lo).length = itoa s.lo := by
  unfold wordL
  rw [List.append_assoc, List.take_left]

theorem word_drop (s : Sp) : (wordL s).drop ((itoa s.lo).length + 2) = itoa s.hi := by
  unfold wordL
  rw [show (itoa s.lo).length + 2 = (itoa s.lo ++ [46, 46]).length by simp, List.drop_left]

/-! ### What Parse has read -/

/-- Behind the reading of some words, the next one begun at 'from'. -/
def ReadInv (s : List UInt8) (o : List Sp) (from_ i : Nat) (out : List Sp) : Prop :=
  ∃ k, k ≤ o.length ∧ out = o.take k ∧ (k < o.length → s.drop from_ = join ((o.drop k).map wordL) [32] ∧ ∃ x, o[k]? = some x ∧ i ≤ from_ + (wordL x).length) ∧ (k = o.length → i = s.length + 1)

theorem join_cons (w : List UInt8) (ws : List (List UInt8)) : join (w :: ws) [32] = w ++ (if ws = [] then [] else 32 :: join ws [32]) := by
  cases ws with
  | nil => simp [join, List.intercalate]
  | cons v ws => simp [join, List.intercalate, List.intersperse]

theorem read_start {s : List UInt8} {o : List Sp} (h : textL o = s) (ho : o ≠ []) : ReadInv s o 0 0 [] := by
  refine ⟨0, Nat.zero_le _, rfl, fun hk => ⟨?_, ?_⟩, fun e => ?_⟩
  · unfold textL at h
    rw [if_neg ho] at h
    simp [h]
  · exact ⟨o[0], by simp [hk], Nat.zero_le _⟩
  · exact absurd (List.eq_nil_of_length_eq_zero e.symm) ho

/-- The word that is being read, and what stands behind it. -/
theorem read_word {s : List UInt8} {o : List Sp} {f i : Nat} {out : List Sp} (h : ReadInv s o f i out) (hi : i ≤ s.length) (_ : f ≤ s.length) :
    ∃ k x, o[k]? = some x ∧ out = o.take k ∧ i ≤ f + (wordL x).length ∧ s.drop f = wordL x ++ (if o.drop (k + 1) = [] then [] else 32 :: join ((o.drop (k + 1)).map wordL) [32]) := by
  obtain ⟨k, hk, hout, h1, h2⟩ := h
  rcases Nat.lt_or_ge k o.length with hlt | hge
  · obtain ⟨hs, x, hx, hix⟩ := h1 hlt
    refine ⟨k, x, hx, hout, hix, ?_⟩
    have e : o.drop k = x :: o.drop (k + 1) := by
      rw [List.drop_eq_getElem_cons hlt]
      congr 1
      exact (List.getElem?_eq_some_iff.1 hx).2
    rw [hs, e, List.map_cons, join_cons]
    congr 1
    by_cases hn : o.drop (k + 1) = []
    · rw [hn]; simp
    · rw [if_neg hn, if_neg (by simpa using hn)]
  · have := h2 (by omega)
    omega

theorem read_more {s : List UInt8} {o : List Sp} {f i : Nat} {out : List Sp} (h : ReadInv s o f i out) (hf : f ≤ i) (hi : i < s.length) (hb : s[i] ≠ 32) : ReadInv s o f (i + 1) out := by
  obtain ⟨k, x, hx, hout, hix, hs⟩ := read_word h (by omega) (by omega)
  have hko : k < o.length := (List.getElem?_eq_some_iff.1 hx).1
  refine ⟨k, by omega, hout, fun _ => ⟨?_, x, hx, ?_⟩, fun e => by omega⟩
  · obtain ⟨k', hk', hout', h1, h2⟩ := h
    have e : k = k' := by
      have h3 := congrArg List.length (hout.symm.trans hout')
      simp at h3
      omega
    subst e
    exact (h1 hko).1
  · rcases Nat.lt_or_ge i (f + (wordL x).length) with h3 | h3
    · omega
    · exfalso
      have e : i = f + (wordL x).length := by omega
      have h4 : s[i]? = (s.drop f)[(wordL x).length]? := by rw [List.getElem?_drop, e]
      rw [hs, List.getElem?_append_right (Nat.le_refl _), Nat.sub_self, List.getElem?_eq_getElem hi] at h4
      split at h4
      · simp at h4
      · simp at h4
        exact hb h4

theorem read_piece {s : List UInt8} {o : List Sp} {f i : Nat} {out : List Sp} (h : ReadInv s o f i out) (hf : f ≤ i) (hi : i ≤ s.length) (hb : ∀ h : i < s.length, s[i] = 32) :
    ∃ x, out ++ [x] = o.take (out.length + 1) ∧ out.length < o.length ∧ x ∈ o ∧ (s.drop f).take (i - f) = wordL x ∧ ReadInv s o (i + 1) (i + 1) (out ++ [x]) := by
  obtain ⟨k, x, hx, hout, hix, hs⟩ := read_word h hi (by omega)
  have hko : k < o.length := (List.getElem?_eq_some_iff.1 hx).1
  have hgx := (List.getElem?_eq_some_iff.1 hx).2
  have hol : out.length = k := by rw [hout, List.length_take]; omega
  have e : i = f + (wordL x).length := by
    rcases Nat.lt_or_ge i (f + (wordL x).length) with h3 | h3
    · exfalso
      have h4 : s[i]? = (s.drop f)[i - f]? := by rw [List.getElem?_drop]; congr 1; omega
      rw [hs, List.getElem?_append_left (by omega)] at h4
      have hil : i < s.length := by
        have h5 := congrArg List.length hs
        simp only [List.length_drop, List.length_append] at h5
        omega
      rw [List.getElem?_eq_getElem hil, List.getElem?_eq_getElem (by omega)] at h4
      have h6 := word_bytes x _ (List.getElem_mem (h := by omega) (l := wordL x) (n := i - f))
      exact h6 ((Option.some.inj h4).symm.trans (hb hil))
    · omega
  have hpiece : (s.drop f).take (i - f) = wordL x := by
    rw [hs, show i - f = (wordL x).length by omega, List.take_left]
  have htake : out ++ [x] = o.take (k + 1) := by
    rw [hout, List.take_succ_eq_append_getElem hko, hgx]
  refine ⟨x, by rw [hol]; exact htake, by omega, hgx ▸ List.getElem_mem hko, hpiece, k + 1, by omega, htake, fun hk => ⟨?_, o[k + 1], by simp [hk], by omega⟩, fun hk => ?_⟩
  · have hn : o.drop (k + 1) ≠ [] := by
      intro e0
      have := congrArg List.length e0
      simp at this
      omega
    rw [if_neg hn] at hs
    have h7 : s.drop (i + 1) = (s.drop f).drop ((wordL x).length + 1) := by rw [List.drop_drop]; congr 1; omega
    rw [h7, hs, List.drop_append, List.drop_eq_nil_of_le (by omega)]
    simp
  · have hn : o.drop (k + 1) = [] := List.drop_eq_nil_of_le (by omega)
    rw [if_pos hn, List.append_nil] at hs
    have h5 := congrArg List.length hs
    simp only [List.length_drop] at h5
    omega

theorem read_end {s : List UInt8} {o : List Sp} {f i : Nat} {out : List Sp} (h : ReadInv s o f i out) (hi : s.length < i) : out = o := by
  obtain ⟨k, hk, hout, h1, h2⟩ := h
  rcases Nat.lt_or_ge k o.length with hlt | hge
  · obtain ⟨hd, x, hx, hix⟩ := h1 hlt
    exfalso
    have hgx := (List.getElem?_eq_some_iff.1 hx).2
    have e : o.drop k = x :: o.drop (k + 1) := by rw [List.drop_eq_getElem_cons hlt, hgx]
    have h5 := congrArg List.length hd
    rw [e, List.map_cons, join_cons] at h5
    simp only [List.length_drop, List.length_append] at h5
    have h6 : 0 < (wordL x).length := by unfold wordL; simp only [List.length_append, List.length_cons]; omega
    omega
  · rw [hout, List.take_of_length_le (by omega)]

/-- All sets whose text it is. -/
def Reads (s : List UInt8) (f i : Nat) (out : List Sp) : Prop := ∀ o, isSet o = true → textL o = s → ReadInv s o f i out

theorem reads_start {s : List UInt8} (hs : s ≠ [45]) : Reads s 0 0 [] := fun o _ h => read_start h fun e => hs (by rw [← h, e]; rfl)

theorem reads_more {s : List UInt8} {f i : Nat} {out : List Sp} (h : Reads s f i out) (hf : f ≤ i) (hi : i < s.length) (hb : s[i] ≠ 32) : Reads s f (i + 1) out :=
  fun o ho e => read_more (h o ho e) hf hi hb

theorem form_is_none {s : List UInt8} (h : ∀ o, isSet o = true → textL o = s → False) : formL s = none := by
  cases hf : formL s with
  | none => rfl
  | some o => exact (h o (formL_some hf).1 (formL_some hf).2).elim

theorem reads_bad {s : List UInt8} {f i : Nat} {out : List Sp} (h : Reads s f i out) (hf : f ≤ i) (hi : i ≤ s.length) (hb : ∀ h : i < s.length, s[i] = 32)
    (hbad : dotsF ((s.drop f).take (i - f)) < 0 ∨ 128 ≤ out.length ∨ numB (((s.drop f).take (i - f)).take (dotsF ((s.drop f).take (i - f))).toNat) = false ∨ numB (((s.drop f).take (i - f)).drop ((dotsF ((s.drop f).take (i - f))).toNat + 2)) = false) : formL s = none := by
  refine form_is_none fun o ho e => ?_
  obtain ⟨x, _, hlt, hx, hp, _⟩ := read_piece (h o ho e) hf hi hb
  have hok := isSet_ok ho x hx
  unfold Sp.ok at hok
  have hok := of_decide_eq_true hok
  have hl := isSet_len ho
  rw [hp, dots_word, Int.toNat_natCast, word_take, word_drop, (num_itoa x.lo (by omega) (by omega)).2, (num_itoa x.hi (by omega) (by omega)).2] at hbad
  rcases hbad with h1 | h1 | h1 | h1
  · omega
  · omega
  · cases h1
  · cases h1

theorem reads_next {s : List UInt8} {f i : Nat} {out : List Sp} (h : Reads s f i out) (hf : f ≤ i) (hi : i ≤ s.length) (hb : ∀ h : i < s.length, s[i] = 32) :
    Reads s (i + 1) (i + 1) (out ++ [⟨numV (((s.drop f).take (i - f)).take (dotsF ((s.drop f).take (i - f))).toNat), numV (((s.drop f).take (i - f)).drop ((dotsF ((s.drop f).take (i - f))).toNat + 2))⟩]) := by
  intro o ho e
  obtain ⟨x, _, _, hx, hp, hr⟩ := read_piece (h o ho e) hf hi hb
  have hok := isSet_ok ho x hx
  unfold Sp.ok at hok
  have hok := of_decide_eq_true hok
  rw [hp, dots_word, Int.toNat_natCast, word_take, word_drop, (num_itoa x.lo (by omega) (by omega)).1, (num_itoa x.hi (by omega) (by omega)).1]
  exact hr

theorem reads_end {s : List UInt8} {f i : Nat} {out : List Sp} (h : Reads s f i out) (hi : s.length < i) : (isSet out = true → textL out = s → formL s = some out) ∧ (¬ (isSet out = true ∧ textL out = s) → formL s = none) :=
  ⟨fun h1 h2 => formL_iff.2 ⟨h1, h2⟩, fun hn => form_is_none fun o ho e => hn (by
    have := read_end (h o ho e) hi
    subst this
    exact ⟨ho, e⟩)⟩

end Go.Proofs.YtifeapnhemolgaaGreatDoor.Pl
