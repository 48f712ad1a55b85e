/- Decimal texts, plain: what strconv.Itoa writes, strconv.Atoi reads; it holds neither a blank nor a point. -/
import Derived.Test.YtifeapnhemolgaaGreatDoorPa
import Derived.Lib.ItoaNum
import Derived.Lib.AtoiTie
import Derived.Lib.SplitLaws
import Derived.Lib.Join
namespace Go.Proofs.YtifeapnhemolgaaGreatDoor.Pl
open Go Go.Lib

theorem digit_byte (d : Nat) (h : d < 10) : digitVal (UInt8.ofNat (48 + d)) = some d ∧ (UInt8.ofNat (48 + d)).toNat = 48 + d := by
  have e : (UInt8.ofNat (48 + d)).toNat = 48 + d := by simp; omega
  unfold digitVal
  rw [e]
  exact ⟨by rw [if_pos (by omega)]; congr 1; omega, rfl⟩

theorem decFrom_snoc : ∀ (l : List UInt8) (acc n d : Nat) (b : UInt8), decFrom acc l = some n → digitVal b = some d → decFrom acc (l ++ [b]) = some (n * 10 + d)
  | [], acc, n, d, b, h, hb => by
    simp only [decFrom, Option.some.injEq] at h
    subst h
    simp [decFrom, hb]
  | a :: t, acc, n, d, b, h, hb => by
    simp only [decFrom, List.cons_append] at h ⊢
    cases ha : digitVal a with
    | none => simp [ha] at h
    | some e =>
      simp only [ha] at h ⊢
      exact decFrom_snoc t _ n d b h hb

theorem decDigits_reads (u : Nat) : decFrom 0 (decDigits u) = some u := by
  induction u using Nat.strongRecOn with
  | _ u ih =>
    rw [decDigits]
    split
    · rename_i h
      simp only [decFrom, (digit_byte u h).1]
      simp
    · rename_i h
      have := decFrom_snoc _ _ _ _ _ (ih (u / 10) (by omega)) (digit_byte (u % 10) (by omega)).1
      rw [this]
      congr 1
      omega

theorem decDigits_bytes (u : Nat) : ∀ b ∈ decDigits u, 48 ≤ b.toNat ∧ b.toNat ≤ 57 := by
  induction u using Nat.strongRecOn with
  | _ u ih =>
    rw [decDigits]
    split
    · rename_i h
      intro b hb
      rw [List.mem_singleton] at hb
      subst hb
      rw [(digit_byte u h).2]; omega
    · rename_i h
      intro b hb
      rcases List.mem_append.1 hb with h1 | h1
      · exact ih _ (by omega) b h1
      · rw [List.mem_singleton] at h1
        subst h1
        rw [(digit_byte (u % 10) (by omega)).2]; omega

theorem decDigits_ne (u : Nat) : decDigits u ≠ [] := by
  rw [decDigits]
  split <;> simp

theorem decNat_digits (u : Nat) : decNat (decDigits u) = some u := by
  unfold decNat
  rw [if_neg (by simp [decDigits_ne])]
  exact decDigits_reads u

theorem atoi_itoa (n : Int) : atoi (itoa n) = some n := by
  unfold itoa
  split
  · rename_i h
    simp only [atoi, BEq.rfl, if_true, decNat_digits, Option.map_some, Option.some.injEq]
    omega
  · rename_i h
    have hb := decDigits_bytes n.toNat
    have hd := decNat_digits n.toNat
    cases hl : decDigits n.toNat with
    | nil => exact absurd hl (decDigits_ne _)
    | cons b r =>
      rw [hl] at hb hd
      have h1 := hb b (by simp)
      have e1 : (b == 45) = false := by rw [beq_eq_false_iff_ne]; rintro rfl; simp at h1
      have e2 : (b == 43) = false := by rw [beq_eq_false_iff_ne]; rintro rfl; simp at h1
      simp only [atoi, e1, e2, hd, Option.map_some]
      simp
      omega

theorem nDigits_le (k u : Nat) (hk : 1 ≤ k) (h : u < 10 ^ k) : nDigits u ≤ k := by
  induction k generalizing u with
  | zero => omega
  | succ k ih =>
    by_cases h0 : u < 10
    · rw [nDigits_small h0]; omega
    · rw [nDigits_big h0]
      rw [Nat.pow_succ] at h
      cases k with
      | zero => simp at h; omega
      | succ k => have := ih (u / 10) (by omega) (by omega); omega

theorem itoa_length (n : Int) (h0 : -1099511627776 ≤ n) (h1 : n ≤ 1099511627776) : (itoa n).length ≤ 14 := by
  unfold itoa
  split
  · rw [List.length_cons, decDigits_length]
    have := nDigits_le 13 n.natAbs (by decide) (by simp; omega)
    omega
  · rw [decDigits_length]
    have := nDigits_le 13 n.toNat (by decide) (by simp; omega)
    omega

theorem atoiAll_itoa (n : Int) (h0 : -1099511627776 ≤ n) (h1 : n ≤ 1099511627776) : atoiAll (itoa n) = .ok n := by
  rw [atoiAll_short _ (by have := itoa_length n h0 h1; omega), atoi_itoa]
  rfl

theorem itoa_bytes (n : Int) : ∀ b ∈ itoa n, b.toNat = 45 ∨ 48 ≤ b.toNat ∧ b.toNat ≤ 57 := by
  unfold itoa
  split
  · intro b hb
    rcases List.mem_cons.1 hb with h | h
    · subst h; exact .inl rfl
    · exact .inr (decDigits_bytes _ b h)
  · exact fun b hb => .inr (decDigits_bytes _ b hb)

theorem itoa_ne (n : Int) : itoa n ≠ [] := by
  unfold itoa
  split
  · simp
  · exact decDigits_ne _

/-! ### A span's word; a set's text -/

def wordL (s : Sp) : List UInt8 := itoa s.lo ++ [46, 46] ++ itoa s.hi

def textL (l : List Sp) : List UInt8 := if l = [] then [45] else join (l.map wordL) [32]

theorem word_bytes (s : Sp) : ∀ b ∈ wordL s, b ≠ 32 := by
  intro b hb e
  subst e
  unfold wordL at hb
  simp only [List.append_assoc, List.mem_append] at hb
  rcases hb with h | h | h
  · have := itoa_bytes _ _ h; simp at this
  · simp at h
  · have := itoa_bytes _ _ h; simp at this

theorem word_length (s : Sp) (h : s.ok = true) : (wordL s).length ≤ 30 := by
  unfold Sp.ok at h
  have h := of_decide_eq_true h
  have h1 := itoa_length s.lo (by omega) (by omega)
  have h2 := itoa_length s.hi (by omega) (by omega)
  unfold wordL
  simp only [List.length_append, List.length_cons, List.length_nil]
  omega

/-- Cut at two points. -/
theorem index_points (l r : List UInt8) (h : ∀ b ∈ l, b ≠ 46) : index (l ++ [46, 46] ++ r) [46, 46] = l.length := by
  induction l with
  | nil => simp [index]
  | cons b l ih =>
    have h1 : b ≠ 46 := h b (by simp)
    have ih := ih fun x hx => h x (by simp [hx])
    simp only [List.cons_append]
    rw [index, if_neg (by simp [List.isPrefixOf]; intro e; exact absurd e.symm h1), ih, if_neg (by simp <;> omega)]
    simp

theorem itoa_no_point (n : Int) : ∀ b ∈ itoa n, b ≠ 46 := by
  intro b hb e
  subst e
  have := itoa_bytes _ _ hb
  simp at this

theorem cut_word (s : Sp) : cut (wordL s) [46, 46] = (itoa s.lo, itoa s.hi, true) := by
  have h := index_points (itoa s.lo) (itoa s.hi) (itoa_no_point _)
  unfold cut wordL
  rw [h, if_pos (by omega)]
  simp [List.drop_append]

/-- Split at blanks. -/
theorem index_blank (l r : List UInt8) (h : ∀ b ∈ l, b ≠ 32) : index (l ++ 32 :: r) [32] = l.length := by
  induction l with
  | nil => simp [index]
  | cons b l ih =>
    have h1 : b ≠ 32 := h b (by simp)
    have ih := ih fun x hx => h x (by simp [hx])
    simp only [List.cons_append]
    rw [index, if_neg (by simp [List.isPrefixOf]; intro e; exact absurd e.symm h1), ih, if_neg (by simp <;> omega)]
    simp

theorem index_no_blank (l : List UInt8) (h : ∀ b ∈ l, b ≠ 32) : index l [32] = -1 := by
  induction l with
  | nil => simp [index]
  | cons b l ih =>
    have h1 : b ≠ 32 := h b (by simp)
    have ih := ih fun x hx => h x (by simp [hx])
    rw [index, if_neg (by simp [List.isPrefixOf]; intro e; exact absurd e.symm h1), ih]
    simp

theorem split_join : ∀ (w : List UInt8) (ws : List (List UInt8)), (∀ x ∈ w :: ws, ∀ b ∈ x, b ≠ 32) → split (join (w :: ws) [32]) [32] = w :: ws
  | w, [], h => by
    have h1 := index_no_blank w (h w (by simp))
    have e : join [w] [32] = w := by simp [join, List.intercalate]
    unfold split
    rw [e, count_miss h1]
    rfl
  | w, v :: ws, h => by
    have ih := split_join v ws fun x hx => h x (by simp at hx ⊢; exact .inr hx)
    have e : join (w :: v :: ws) [32] = w ++ 32 :: join (v :: ws) [32] := by simp [join, List.intercalate, List.intersperse]
    have h1 := index_blank w (join (v :: ws) [32]) (h w (by simp))
    unfold split at ih ⊢
    rw [e, count_hit (by simp) h1, Nat.add_comm 1, splitK, if_neg (by rw [h1]; simp <;> omega), h1]
    simp only [Int.toNat_natCast, Nat.add_zero, List.take_left, List.length_singleton]
    rw [show (w ++ 32 :: join (v :: ws) [32]).drop (w.length + 1) = join (v :: ws) [32] by simp [List.drop_append], ih]

theorem split_text (l : List Sp) (hl : l ≠ []) : split (textL l) [32] = l.map wordL := by
  unfold textL
  rw [if_neg hl]
  cases l with
  | nil => exact absurd rfl hl
  | cons s l =>
    refine split_join _ _ fun x hx b hb => ?_
    rw [← List.map_cons] at hx
    obtain ⟨t, _, rfl⟩ := List.mem_map.1 hx
    exact word_bytes t b hb

end Go.Proofs.YtifeapnhemolgaaGreatDoor.Pl
