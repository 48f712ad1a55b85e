/- Parse and Text, plain: what Parse reads is the one set whose text it is. -/
import Derived.Test.YtifeapnhemolgaaGreatDoorQa
namespace Go.Proofs.YtifeapnhemolgaaGreatDoor.Pl
open Go Go.Lib

/-- What a word says: two numbers with two points between. -/
def pairL (w : List UInt8) : Option Sp :=
  if (cut w [46, 46]).2.2 = true then
    match atoiAll (cut w [46, 46]).1, atoiAll (cut w [46, 46]).2.1 with
    | .ok a, .ok b => some ⟨a, b⟩
    | _, _ => none
  else none

/-- What the words say, one after another. -/
def readL : List (List UInt8) → List Sp → Option (List Sp)
  | [], out => some out
  | w :: ws, out => match pairL w with
    | some s => if 128 ≤ out.length then none else readL ws (out ++ [s])
    | none => none

def partsL (s : List UInt8) : Option (List Sp) := if s = [45] then some [] else readL (split s [32]) []

/-- What Parse reads; none: an error of form. -/
def formL (s : List UInt8) : Option (List Sp) := match partsL s with
  | some o => if isSet o = true ∧ textL o = s then some o else none
  | none => none

theorem formL_some {s : List UInt8} {o : List Sp} (h : formL s = some o) : isSet o = true ∧ textL o = s := by
  unfold formL at h
  split at h
  · split at h
    · rename_i hc
      cases h
      exact hc
    · cases h
  · cases h

theorem pairL_word {s : Sp} (h : s.ok = true) : pairL (wordL s) = some s := by
  unfold Sp.ok at h
  have h := of_decide_eq_true h
  unfold pairL
  rw [cut_word, if_pos rfl]
  simp only [atoiAll_itoa s.lo (by omega) (by omega), atoiAll_itoa s.hi (by omega) (by omega)]

theorem readL_words : ∀ (l out : List Sp), (∀ s ∈ l, s.ok = true) → out.length + l.length ≤ 128 → readL (l.map wordL) out = some (out ++ l)
  | [], out, _, _ => by simp [readL]
  | s :: l, out, h, hl => by
    simp only [List.length_cons] at hl
    rw [List.map_cons, readL, pairL_word (h s (by simp))]
    simp only
    rw [if_neg (by omega), readL_words l (out ++ [s]) (fun t ht => h t (by simp [ht])) (by simp; omega)]
    simp

theorem chain_ok : ∀ (l : List Sp), chain l = true → ∀ s ∈ l, s.ok = true
  | [], _ => fun s hs => by cases hs
  | [t], h => fun s hs => by
    rw [List.mem_singleton] at hs
    subst hs
    simpa [chain] using h
  | t :: u :: l, h => fun s hs => by
    simp only [chain, Bool.and_eq_true] at h
    rcases List.mem_cons.1 hs with e | e
    · subst e; exact h.1.1
    · exact chain_ok (u :: l) h.2 s e

theorem isSet_ok {l : List Sp} (h : isSet l = true) : ∀ s ∈ l, s.ok = true := by
  unfold isSet at h
  rw [Bool.and_eq_true] at h
  exact chain_ok l h.2

theorem isSet_len {l : List Sp} (h : isSet l = true) : l.length ≤ 128 := by
  unfold isSet at h
  rw [Bool.and_eq_true] at h
  exact of_decide_eq_true h.1

theorem text_dash {l : List Sp} (h : l ≠ []) : textL l ≠ [45] := by
  intro e
  have h1 := split_text l h
  rw [e] at h1
  cases l with
  | nil => exact h rfl
  | cons s l =>
    have h2 : split [45] [32] = [[45]] := by decide
    rw [h2, List.map_cons] at h1
    have h3 := (List.cons.inj h1).1
    have h4 := congrArg List.length h3
    unfold wordL at h4
    simp only [List.length_append, List.length_cons, List.length_nil] at h4
    omega

/-- Parse inverts Text. -/
theorem formL_text {a : List Sp} (ha : isSet a = true) : formL (textL a) = some a := by
  have hp : partsL (textL a) = some a := by
    unfold partsL
    by_cases h : a = []
    · subst h; rfl
    · rw [if_neg (text_dash h), split_text a h, readL_words a [] (isSet_ok ha) (by have := isSet_len ha; simp; omega)]
      rfl
  unfold formL
  rw [hp]
  simp only
  rw [if_pos ⟨ha, trivial⟩]

/-- What Parse reads is decided by its text alone. -/
theorem formL_iff {s : List UInt8} {o : List Sp} : formL s = some o ↔ isSet o = true ∧ textL o = s :=
  ⟨formL_some, fun ⟨h, e⟩ => e ▸ formL_text h⟩

theorem text_inj {a b : List Sp} (ha : isSet a = true) (hb : isSet b = true) (h : textL a = textL b) : a = b := by
  have h1 := formL_text ha
  rw [h, formL_text hb] at h1
  exact (Option.some.inj h1).symm

/-- A set's text is short. -/
theorem join_length : ∀ (ws : List (List UInt8)) (k : Nat), (∀ w ∈ ws, w.length ≤ k) → (join ws [32]).length ≤ ws.length * (k + 1)
  | [], _, _ => by simp [join, List.intercalate]
  | [w], k, h => by
    have := h w (by simp)
    simp [join, List.intercalate]
    omega
  | w :: v :: ws, k, h => by
    have ih := join_length (v :: ws) k fun x hx => h x (by simp at hx ⊢; exact .inr hx)
    have e : join (w :: v :: ws) [32] = w ++ 32 :: join (v :: ws) [32] := by simp [join, List.intercalate, List.intersperse]
    have hw := h w (by simp)
    rw [e, List.length_append, List.length_cons]
    simp only [List.length_cons, Nat.add_mul] at ih ⊢
    omega

theorem text_length {a : List Sp} (ha : isSet a = true) : (textL a).length ≤ 4000 := by
  unfold textL
  split
  · simp
  · have h1 := join_length (a.map wordL) 30 fun w hw => by
      obtain ⟨s, hs, rfl⟩ := List.mem_map.1 hw
      exact word_length s (isSet_ok ha s hs)
    have h2 := isSet_len ha
    rw [List.length_map] at h1
    omega

end Go.Proofs.YtifeapnhemolgaaGreatDoor.Pl
