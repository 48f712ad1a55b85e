/- SpanBoolean: the laws of the sets' algebra, as its walk asks for them. -/
import Derived.Test.YtifeapnhemolgaaTc
import Derived.Test.YtifeapnhemolgaaPj
namespace Go.Proofs.Ytifeapnhemolgaa.Wk
open Go Go.RowKit Go.Proofs.Ytifeapnhemolgaa.HL Go.Proofs.Ytifeapnhemolgaa.Pl

/-- What a rule makes of two lists, and whether it makes it. -/
def Makes (f : Bool → Bool → Bool) (a b o : List Sp) (k : Bool) : Prop := chosenOut f a b = o ∧ (chosenErr f a b == 0) = k

theorem makes_of {f : Bool → Bool → Bool} {a b o : List Sp} (ha : isSet a = true) (hb : isSet b = true) (ho : chosen f a b = o) (h : o.length ≤ 128) : Makes f a b o true := by
  subst ho
  unfold Makes chosenOut chosenErr
  rw [ha, hb]
  simp only [Bool.and_self, if_true]
  rw [if_neg (by omega), if_neg (by omega)]
  exact ⟨rfl, rfl⟩

theorem makes_pair {f g : Bool → Bool → Bool} {a b c d : List Sp} (ha : isSet a = true) (hb : isSet b = true) (hc : isSet c = true) (hd : isSet d = true) (h : chosen f a b = chosen g c d) :
    ∃ o k, Makes f a b o k ∧ Makes g c d o k ∧ o.length ≤ 128 := by
  unfold Makes chosenOut chosenErr
  rw [ha, hb, hc, hd, h]
  simp only [Bool.and_self, if_true]
  by_cases hl : 128 < (chosen g c d).length
  · rw [if_pos hl, if_pos hl]
    exact ⟨_, _, ⟨rfl, rfl⟩, ⟨rfl, rfl⟩, by simp⟩
  · rw [if_neg hl, if_neg hl]
    exact ⟨_, _, ⟨rfl, rfl⟩, ⟨rfl, rfl⟩, by omega⟩

theorem makes_small {f : Bool → Bool → Bool} {a b : List Sp} (ha : isSet a = true) (hb : isSet b = true) (h : a.length + b.length + 1 ≤ 128) : Makes f a b (chosen f a b) true ∧ isSet (chosen f a b) = true ∧ (chosen f a b).length ≤ a.length + b.length + 1 := by
  have h1 := chosen_count f ha hb
  exact ⟨makes_of ha hb rfl (by omega), chose_small ha hb h, h1⟩

theorem notB_eq : ∀ p q, notB p q = !p := fun _ _ => rfl

theorem laws {a b c : List Sp} (ha : isSet a = true) (hb : isSet b = true) (hc : isSet c = true) (la : a.length ≤ 60) (lb : b.length ≤ 60) (lc : c.length ≤ 60) :
    ∃ ab bc ac l fl d m fm na nb n D I, ab.length ≤ 128 ∧ bc.length ≤ 128 ∧ l.length ≤ 128 ∧ m.length ≤ 128 ∧ n.length ≤ 128 ∧
      Makes (keepB 0) a b ab true ∧ Makes (keepB 0) b a ab true ∧ Makes (keepB 1) b c bc true ∧ Makes (keepB 1) c b bc true ∧
      Makes (keepB 0) a c ac true ∧ Makes (keepB 0) a bc l fl ∧ Makes (keepB 1) ab ac l fl ∧
      Makes (keepB 0) ab c m fm ∧ Makes (keepB 0) b c d true ∧ Makes (keepB 0) a d m fm ∧
      Makes notB a [] na true ∧ Makes notB b [] nb true ∧ Makes notB na [] a true ∧ Makes notB ab [] n true ∧ Makes (keepB 1) na nb n true ∧
      Makes (keepB 1) a na [] true ∧ Makes (keepB 0) a na [⟨-1099511627776, 1099511627776⟩] true ∧
      Makes (keepB 0) a a a true ∧ Makes (keepB 2) a b D true ∧ Makes (keepB 1) a b I true ∧ Makes (keepB 0) D I a true := by
  have h0 : isSet [] = true := rfl
  obtain ⟨x1, y1, z1⟩ := makes_small (f := keepB 0) ha hb (by omega)
  obtain ⟨x2, y2, z2⟩ := makes_small (f := keepB 0) hb ha (by omega)
  obtain ⟨x3, y3, z3⟩ := makes_small (f := keepB 1) hb hc (by omega)
  obtain ⟨x4, y4, z4⟩ := makes_small (f := keepB 1) hc hb (by omega)
  obtain ⟨x5, y5, z5⟩ := makes_small (f := keepB 0) ha hc (by omega)
  obtain ⟨x6, y6, z6⟩ := makes_small (f := keepB 0) hb hc (by omega)
  obtain ⟨x7, y7, z7⟩ := makes_small (f := notB) ha h0 (by simp; omega)
  obtain ⟨x8, y8, z8⟩ := makes_small (f := notB) hb h0 (by simp; omega)
  obtain ⟨x9, y9, z9⟩ := makes_small (f := keepB 2) ha hb (by omega)
  obtain ⟨x10, y10, z10⟩ := makes_small (f := keepB 1) ha hb (by omega)
  obtain ⟨x11, y11, z11⟩ := makes_small (f := notB) y1 h0 (by simp; omega)
  simp only [List.length_nil] at z7 z8 z11
  have hm := morgan' notB_eq ha hb y1 y7 y8
  obtain ⟨l, fl, l1, l2, l3⟩ := makes_pair ha y3 y1 y5 (dist' ha hb hc y3 y1 y5)
  obtain ⟨m, fm, m1, m2, m3⟩ := makes_pair y1 hc ha y6 (assoc' ha hb hc y1 y6)
  refine ⟨_, _, _, l, fl, _, m, fm, _, _, _, _, _, ?_, ?_, l3, m3, ?_, x1, ?_, x3, ?_, x5, l1, l2, m1, x6, m2, x7, x8, ?_, x11, ?_, ?_, ?_, ?_, x9, x10, ?_⟩
  · omega
  · omega
  · omega
  · rw [or_comm' ha hb]; exact x2
  · rw [and_comm' hb hc]; exact x4
  · exact makes_of y7 h0 (back' notB_eq ha y7) (by omega)
  · exact makes_of y7 y8 hm.symm (by omega)
  · exact makes_of ha y7 (none' notB_eq ha y7) (by simp)
  · exact makes_of ha y7 (all' notB_eq ha y7) (by simp)
  · exact makes_of ha ha (self' ha) (by omega)
  · exact makes_of y9 y10 (whole' ha hb y9 y10) (by omega)

theorem or_ok {o : List Sp} {k : Bool} (S w : World) (H : Hp) (hw : Has S w H) (va vb : Value) (la lb : List Sp) (ha : SlIn H 2 va la.length (spc la)) (hb : SlIn H 2 vb lb.length (spc lb)) (h : Makes (keepB 0) la lb o k) :
    Calls Try.prog 20 #[va, vb] w (MadeB S H o k) := by
  have h1 := or_calls S w H hw va vb la lb ha hb
  rw [h.1, h.2] at h1
  exact h1

theorem and_ok {o : List Sp} {k : Bool} (S w : World) (H : Hp) (hw : Has S w H) (va vb : Value) (la lb : List Sp) (ha : SlIn H 2 va la.length (spc la)) (hb : SlIn H 2 vb lb.length (spc lb)) (h : Makes (keepB 1) la lb o k) :
    Calls Try.prog 21 #[va, vb] w (MadeB S H o k) := by
  have h1 := and_calls S w H hw va vb la lb ha hb
  rw [h.1, h.2] at h1
  exact h1

theorem lnot_ok {o : List Sp} {k : Bool} (S w : World) (H : Hp) (hw : Has S w H) (va : Value) (la : List Sp) (ha : SlIn H 2 va la.length (spc la)) (h : Makes notB la [] o k) :
    Calls Try.prog 22 #[va] w (MadeB S H o k) := by
  have h1 := lnot_calls S w H hw va la ha
  rw [h.1, h.2] at h1
  exact h1

theorem sub_ok {o : List Sp} (S w : World) (H : Hp) (hw : Has S w H) (va vb : Value) (la lb : List Sp) (ha : SlIn H 2 va la.length (spc la)) (hb : SlIn H 2 vb lb.length (spc lb)) (h : Makes (keepB 2) la lb o true) :
    Calls Try.prog 15 #[va, vb] w (MadeE S H o 0) := by
  have h1 := subtract_calls S w H hw va vb la lb ha hb
  rw [h.1, eq_of_beq h.2] at h1
  exact h1

theorem same_ok (S w : World) (H : Hp) (hw : Has S w H) (va vb : Value) (la : List Sp) (ha : SlIn H 2 va la.length (spc la)) (hb : SlIn H 2 vb la.length (spc la)) (hm : la.length ≤ 1000000) :
    Calls Try.prog 12 #[va, vb] w fun e w' => e = .returned (.bool true) ∧ Below w.heap.size w w' := by
  have h1 := same_calls S w H hw va vb la la ha hb hm
  rw [decide_eq_true (rfl : la = la)] at h1
  exact h1

end Go.Proofs.Ytifeapnhemolgaa.Wk
