/- Spans as numbers, and what a valid span and a set are. -/
namespace Go.Proofs.YtifeapnhemolgaaGreatDoor.Pl

structure Sp where
  lo : Int
  hi : Int
deriving DecidableEq

def Sp.ok (s : Sp) : Bool := decide (-1099511627776 ≤ s.lo ∧ s.lo < s.hi ∧ s.hi ≤ 1099511627776)

/-- Is each span valid, and does each end before the next one begins? -/
def chain : List Sp → Bool
  | [] => true
  | [s] => s.ok
  | s :: t :: l => s.ok && decide (s.hi < t.lo) && chain (t :: l)

/-- Is a list a set? -/
def isSet (l : List Sp) : Bool := decide (l.length ≤ 128) && chain l

/-- What a loop asks at place i. -/
def fitsAt (l : List Sp) (i : Nat) : Bool := match l[i]? with
  | none => true
  | some x => x.ok && (i == 0 || match l[i - 1]? with | none => true | some p => decide (p.hi < x.lo))

theorem chain_iff : ∀ (l : List Sp), chain l = true ↔ ∀ i, i < l.length → fitsAt l i = true
  | [] => by simp [chain]
  | [s] => by
    constructor
    · intro h i hi
      have : i = 0 := by simp at hi; omega
      subst this
      simpa [fitsAt, chain] using h
    · intro h
      simpa [fitsAt, chain] using h 0 (by simp)
  | s :: t :: l => by
    have ih := chain_iff (t :: l)
    simp only [chain, Bool.and_eq_true, decide_eq_true_eq]
    rw [ih]
    constructor
    · rintro ⟨⟨h1, h2⟩, h3⟩ i hi
      match i with
      | 0 => simp [fitsAt, h1]
      | 1 =>
        have := h3 0 (by simp)
        simp [fitsAt] at this ⊢
        exact ⟨this, h2⟩
      | i + 2 =>
        have := h3 (i + 1) (by simp at hi ⊢; omega)
        simpa [fitsAt] using this
    · intro h
      refine ⟨⟨by simpa [fitsAt] using h 0 (by simp), ?_⟩, fun i hi => ?_⟩
      · have := h 1 (by simp)
        simp [fitsAt] at this
        exact this.2
      · match i with
        | 0 =>
          have := h 1 (by simp)
          simp [fitsAt] at this ⊢
          exact this.1
        | i + 1 =>
          have := h (i + 2) (by simp at hi ⊢; omega)
          simpa [fitsAt] using this

/-- One span more behind ascending ones: put together with the last one if they touch. -/
def joinStep (out : List Sp) (s : Sp) : List Sp := match out.getLast? with
  | none => [s]
  | some p => if s.lo ≤ p.hi then out.dropLast ++ [⟨p.lo, max p.hi s.hi⟩] else out ++ [s]

def joinL (l : List Sp) : List Sp := l.foldl joinStep []

theorem joinStep_length (out : List Sp) (s : Sp) : (joinStep out s).length ≤ out.length + 1 := by
  unfold joinStep
  split
  · simp
  · split
    · simp <;> omega
    · simp

theorem ok_of_chain : ∀ {l : List Sp}, chain l = true → ∀ s, s ∈ l → s.ok = true
  | [], _, s, h => by cases h
  | [t], hc, s, h => by simp at h; subst h; exact hc
  | t :: u :: l, hc, s, h => by
    simp only [chain, Bool.and_eq_true] at hc
    rcases List.mem_cons.1 h with rfl | h
    · exact hc.1.1
    · exact ok_of_chain hc.2 s h

theorem ok_bounds {s : Sp} (h : s.ok = true) : -1099511627776 ≤ s.lo ∧ s.lo < s.hi ∧ s.hi ≤ 1099511627776 := by simpa [Sp.ok] using h

/-- A span wider by r on both sides, within the whole. -/
def growS (r : Int) (s : Sp) : Sp := ⟨max (s.lo - r) (-1099511627776), min (s.hi + r) 1099511627776⟩

def growL (r : Int) (l : List Sp) : List Sp := joinL (l.map (growS r))

/-- What is left of a span whose ends (but those of the whole) come nearer by r. -/
def shrinkS (r : Int) (s : Sp) : List Sp :=
  let lo := if -1099511627776 < s.lo then s.lo + r else s.lo
  let hi := if s.hi < 1099511627776 then s.hi - r else s.hi
  if lo < hi then [⟨lo, hi⟩] else []

def shrinkL (r : Int) (l : List Sp) : List Sp := l.flatMap (shrinkS r)

/-- Is a tolerance allowed for a list? -/
def tol (l : List Sp) (r : Int) : Bool := isSet l && decide (0 ≤ r ∧ r ≤ 1099511627776)

def growOut (l : List Sp) (r : Int) : List Sp := if tol l r then growL r l else []
def shrinkOut (l : List Sp) (r : Int) : List Sp := if tol l r then shrinkL r l else []
def tolErr (l : List Sp) (r : Int) : Int := if tol l r then 0 else 2

end Go.Proofs.YtifeapnhemolgaaGreatDoor.Pl
