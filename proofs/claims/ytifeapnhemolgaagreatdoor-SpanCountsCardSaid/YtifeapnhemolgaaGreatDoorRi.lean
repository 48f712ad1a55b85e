/- Regions whose order is open, inside the wide fence: for the calls of a loop's body (yield). -/
import Derived.Test.YtifeapnhemolgaaGreatDoorRg
import Derived.OrdersIn
import Derived.ControlIn
namespace Go.Proofs.YtifeapnhemolgaaGreatDoor.HL
open Go Go.RowKit

theorem yieldsIf_wpOpI {P : Program} {ops : Array Oper} {Q : Exit → Act → World → Prop} {S : World → Prop} {i : Nat} {o : Oper} {v : Value} {a : Act} (hi : ops[i]? = some o) (hy : YieldsIf P ops S o v a)
    {K : Act → World → Prop} {w : World} (hS : S w) (h : K (a.put o.dst v) w) : wpOpIn Fence.wide 3 P ops Q i K a w := by
  unfold wpOpIn
  simp only [hi]
  rcases hy with ⟨hw, hv⟩ | ⟨hw, rfl⟩
  · simp only [hw, if_true, Oper.wpIn, Fence.wide_round, Oper.semAt_none, hv w hS, Oper.uponIn]; exact ⟨fun _ _ => trivial, h⟩
  · simp only [hw, Bool.false_eq_true, if_false]; exact ⟨fun _ _ => trivial, h⟩

theorem wpOpI_putIf {P : Program} {ops : Array Oper} {Q : Exit → Act → World → Prop} {S : World → Prop} {j : Nat} {oi oj : Oper} {v : Value} (hj : ops[j]? = some oj) (hap : oi.apart ops oj = true)
    (hsi : ∀ cs b, oi.op ≠ .select cs b) (hsj : ∀ cs b, oj.op ≠ .select cs b)
    (hQ : ∀ c a w, Q (.panic c) (a.put oi.dst v) w → Q (.panic c) a w) {K : Act → World → Prop} {a : Act} {w : World}
    (hy : YieldsIf P ops S oi v a) (h : wpOpIn Fence.wide 3 P ops Q j K (a.put oi.dst v) w) :
    wpOpIn Fence.wide 3 P ops Q j (fun a' w' => YieldsIf P ops S oi v a' ∧ K (a'.put oi.dst v) w') a w := by
  obtain ⟨h1, h2, h3⟩ := Oper.apart_spec hap
  have keep : ∀ (a : Act), YieldsIf P ops S oi v a → ∀ u, YieldsIf P ops S oi v (a.put oj.dst u) := fun a hy u =>
    hy.of_same (execOp_put oi hsi a oj.dst u h3) (wanted_put oi a oj.dst u h3)
  have keepD : ∀ d, YieldsIf P ops S oi v { a with defers := d :: a.defers } := fun d => hy.of_same rfl rfl
  unfold wpOpIn at *
  simp only [hj] at *
  rw [wanted_put oj a oi.dst v h1] at h
  split
  · rename_i hw
    simp only [hw, if_true] at h
    unfold Oper.wpIn at *
    refine ⟨fun _ _ => trivial, ?_⟩
    have h := h.2
    rw [Fence.wide_round, Oper.semAt_none, execOp_put oj hsj a oi.dst v h1] at h
    rw [Fence.wide_round, Oper.semAt_none]
    generalize (execOp a.eval oj).run P w = r at *
    cases r with
    | ok x w' =>
      cases x <;> simp only [Oper.uponIn] at h ⊢
      case value u => exact ⟨keep a hy u, by rw [← Act.put_comm a v u h2]; exact h⟩
      case skip => exact ⟨keep a hy _, by rw [← Act.put_comm a v undef h2]; exact h⟩
      case defer d =>
        refine ⟨keep _ (keepD d) _, ?_⟩
        rw [← Act.put_comm _ v undef h2, ← Act.put_defers]
        exact h
      case enter f args =>
        refine ⟨h.1, CallsIn.mono h.2 fun e w'' he => ?_⟩
        cases e with
        | returned u => exact ⟨keep a hy u, by rw [← Act.put_comm a v u h2]; exact he⟩
        | panicked c => exact hQ _ _ _ he
        | outgrown => exact he
      case row row args => exact ⟨h.1, RowsIn.mono h.2 fun u w'' he => ⟨keep a hy u, by rw [← Act.put_comm a v u h2]; exact he⟩⟩
      case round l f tmps assign body =>
        refine ⟨h.1, RoundIn.mono h.2 fun e w'' he => ?_⟩
        cases e with
        | returned u => exact ⟨keep a hy u, by rw [← Act.put_comm a v u h2]; exact he⟩
        | panicked c => exact hQ _ _ _ he
        | outgrown => exact he
    | halt x w' =>
      cases x <;> simp only [Oper.uponIn] at h ⊢
      case panic u => exact hQ _ _ _ h
  · rename_i hw
    simp only [hw] at h
    exact ⟨fun _ _ => trivial, keep a hy _, by rw [← Act.put_comm a v undef h2]; exact h.2⟩

/-! ### What must come ahead of an operation, directly or through others -/

/-- Does operation j wait for i, directly or through others? -/
def waitsFor (ops : Array Oper) : Nat → Nat → Nat → Bool
  | 0, _, _ => false
  | k + 1, j, i => match ops[j]? with
    | none => false
    | some o => o.after.any fun e => Region.binds .any e && (e.on == i || waitsFor ops k e.on i)

/-- Whatever has come up has that for which it waits behind it. -/
def Closed (ops : Array Oper) (listed : Array Bool) : Prop :=
  ∀ j oj, listed.getD j false = true → ops[j]? = some oj → ∀ e, e ∈ oj.after → Region.binds .any e = true → listed.getD e.on false = true

def closedB (ops : Array Oper) (listed : Array Bool) : Bool :=
  (List.range ops.size).all fun j => !listed.getD j false || (match ops[j]? with | none => true | some o => o.after.all fun e => !Region.binds .any e || listed.getD e.on false)

theorem closedB_spec {ops : Array Oper} {listed : Array Bool} (h : closedB ops listed = true) : Closed ops listed := by
  intro j oj hj ho e he hb
  have hjl : j < ops.size := (Array.getElem?_eq_some_iff.1 ho).1
  have h1 := List.all_eq_true.1 h j (List.mem_range.2 hjl)
  simp only [hj, Bool.not_true, Bool.false_or, ho] at h1
  have h2 := (Array.all_eq_true'.1 h1) e he
  simpa [hb] using h2

theorem Closed.set {ops : Array Oper} {listed : Array Bool} (h : Closed ops listed) {j : Nat} {oj : Oper} (ho : ops[j]? = some oj) (hd : ∀ e, e ∈ oj.after → Region.binds .any e = true → listed.getD e.on false = true) : Closed ops (listed.setIfInBounds j true) := by
  intro i oi hi hoi e he hb
  by_cases e1 : j = i
  · subst e1
    rw [ho] at hoi
    cases hoi
    exact getD_set_true (hd e he hb)
  · rw [getD_set_ne false e1] at hi
    exact getD_set_true (h i oi hi hoi e he hb)

theorem waits_listed {ops : Array Oper} {listed : Array Bool} (h : Closed ops listed) (i : Nat) : ∀ (k j : Nat) (oj : Oper), ops[j]? = some oj → (∀ e, e ∈ oj.after → Region.binds .any e = true → listed.getD e.on false = true) → waitsFor ops k j i = true → listed.getD i false = true
  | 0, _, _, _, _, hw => by cases hw
  | k + 1, j, oj, ho, hd, hw => by
    simp only [waitsFor, ho] at hw
    obtain ⟨e, he, hb⟩ := Array.any_eq_true'.1 hw
    simp only [Bool.and_eq_true, Bool.or_eq_true, beq_iff_eq] at hb
    obtain ⟨hb, rfl | hb2⟩ := hb
    · exact hd e he hb
    · have h1 := hd e he hb
      cases hoe : ops[e.on]? with
      | none =>
        cases k with
        | zero => cases hb2
        | succ k => simp [waitsFor, hoe] at hb2
      | some o => exact waits_listed h i k e.on o hoe (fun e' he' hb' => h e.on o h1 hoe e' he' hb') hb2

/-- Does each of the last ones wait for this one, directly or through others? -/
def awaitedI (ops : Array Oper) (fin : List Nat) (i : Nat) : Bool := fin.all fun c => waitsFor ops ops.size c i

/-- May these be taken first, one behind the other? ('aw': each of the last ones waits for them.) -/
def segOkI (ops : Array Oper) (fin : List Nat) (aw : Bool) : List Nat → Array Bool → Bool
  | [], _ => true
  | i :: seg, l => (match ops[i]? with | none => false | some o => plainOp o.op) && (!aw || (awaitedI ops fin i && closedB ops l)) && !fin.contains i && Region.free .any ops l i && (Region.ready .any ops l).contains i && segOkI ops fin aw seg (l.setIfInBounds i true)

/-- All that is asked of a mask. -/
def maskOkI (ops : Array Oper) (fin : List Nat) (aw : Bool) (m : List Bool) (listed : Array Bool) (n n1 : Nat) : Bool :=
  Region.noSelect ops && segOkI ops fin aw (idxB 0 m) listed && n == n1 + (idxB 0 m).length && m.length ≤ ops.size && (!aw || noFinB fin listed)

/-- As 'HeldP', the operations inside the wide fence. -/
def HeldI (P : Program) (ops : Array Oper) (Q : Exit → Act → World → Prop) (S : World → Prop) (fin : List Nat) : Nat → Array Bool → Act → World → Prop
  | 0, listed, a, w => Region.ready .any ops listed = [] ∧ NoPanic Q .normal a w
  | n + 1, listed, a, w => (Region.ready .any ops listed = [] → NoPanic Q .normal a w) ∧
    ∀ i, i ∈ Region.ready .any ops listed → wpOpIn Fence.wide 3 P ops (NoPanic Q) i (fun a' w' => (NoFin fin (listed.setIfInBounds i true) → S w') ∧ HeldI P ops Q S fin n (listed.setIfInBounds i true) a' w') a w

theorem HeldI.any {P : Program} {ops : Array Oper} {Q : Exit → Act → World → Prop} {S : World → Prop} {fin : List Nat} : ∀ (n : Nat) (listed : Array Bool) (a : Act) (w : World), HeldI P ops Q S fin n listed a w → wpAnyIn Fence.wide 3 P .any ops (NoPanic Q) n listed a w
  | 0, _, _, _, h => h
  | n + 1, _, _, _, h => ⟨h.1, fun i hi => wpOpIn_mono (fun a' w' k => HeldI.any n _ a' w' k.2) (h.2 i hi)⟩

theorem heldI_start {P : Program} {id : Nat} {ops : Array Oper} {Q : Exit → Act → World → Prop} {a : Act} {w : World} (S : World → Prop) (fin : List Nat) (hm : P.follows .mixedOrders = true)
    (h : HeldI P ops Q S fin ops.size (Array.replicate ops.size false) a w.drew) : (Code.region id ops true).wp P Q a w :=
  wp_region_noPanic (wpIn_wide.1 (wpIn_region_any hm (h.any _ _ _ _)))

/-- An operation that only looks may be carried out first: in every world of the class, if the last ones wait for it and none of them has come up ('aw'); or in every world at all. -/
theorem HeldI.first {P : Program} {ops : Array Oper} {Q : Exit → Act → World → Prop} {S : World → Prop} {fin : List Nat} {i : Nat} {o : Oper} {v : Value} (aw : Bool) (hi : ops[i]? = some o) (hs : Region.noSelect ops = true) (hif : i ∉ fin)
    (hA : aw = true → awaitedI ops fin i = true) :
    ∀ (n : Nat) (listed : Array Bool) (a : Act) (w : World), Region.free .any ops listed i = true → i ∈ Region.ready .any ops listed → YieldsIf P ops (cls aw S) o v a → (NoFin fin listed → S w) → (aw = true → NoFin fin listed) → (aw = true → Closed ops listed) →
      HeldI P ops Q S fin n (listed.setIfInBounds i true) (a.put o.dst v) w → HeldI P ops Q S fin (n + 1) listed a w := by
  intro n
  induction n with
  | zero =>
    intro listed a w _ hr hy hS hN _ h
    have hu := (mem_ready.1 hr).1
    refine ⟨fun h0 => (by rw [h0] at hr; cases hr), fun j hj => ?_⟩
    by_cases e : j = i
    · subst e
      exact yieldsIf_wpOpI hi hy (fun k => hS (hN k)) ⟨fun k => hS (k.unset hu), h⟩
    · have := ready_mono hj e
      rw [h.1] at this
      cases this
  | succ n ih =>
    intro listed a w hf hr hy hS hN hC h
    have hui := (mem_ready.1 hr).1
    refine ⟨fun h0 => (by rw [h0] at hr; cases hr), fun j hj => ?_⟩
    by_cases e : j = i
    · subst e
      exact yieldsIf_wpOpI hi hy (fun k => hS (hN k)) ⟨fun k => hS (k.unset hui), h⟩
    · have h1 := h.2 j (ready_mono hj e)
      obtain ⟨hu, oj, hoj, hall⟩ := mem_ready.1 hj
      have hw : ∀ x, x ∈ oj.after → Region.binds .any x = true → x.on ≠ i := by
        intro x hx hb hxi
        have k1 := hall x hx hb
        rw [hxi] at k1
        have := listed_lt hui
        simp [this] at hui k1
        rw [hui] at k1
        cases k1
      have hap := Region.free_spec hi hf j oj hoj e hu hw
      have h2 := wpOpI_putIf hoj hap (fun cs b => Region.noSelect_spec hs i o cs b hi) (fun cs b => Region.noSelect_spec hs j oj cs b hoj) (fun _ _ _ k => k) hy h1
      have hf' : Region.free .any ops (listed.setIfInBounds j true) i = true := by
        simp only [Region.free, hi, List.all_eq_true, List.mem_range] at hf ⊢
        intro k hk
        have := hf k hk
        by_cases hjk : j = k
        · subst hjk
          simp [listed_lt hu]
        · rwa [getD_set_ne true hjk]
      have hcomm : (listed.setIfInBounds j true).setIfInBounds i true = (listed.setIfInBounds i true).setIfInBounds j true := Array.setIfInBounds_comm _ _ e
      refine wpOpIn_mono (fun a' w' h3 => ?_) h2
      have hS' : NoFin fin (listed.setIfInBounds j true) → S w' := fun k => h3.2.1 (by rw [← hcomm]; exact k.set hif)
      refine ⟨hS', ih (listed.setIfInBounds j true) a' w' hf' (ready_mono hr (Ne.symm e)) h3.1 hS' (fun ha => ?_) (fun ha => (hC ha).set hoj hall) (by rw [hcomm]; exact h3.2.2)⟩
      refine (hN ha).set fun hm => ?_
      have h4 := waits_listed (hC ha) i _ j oj hoj hall (List.all_eq_true.1 (hA ha) j hm)
      have := listed_lt hui
      simp [this] at hui h4
      rw [hui] at h4
      cases h4

theorem heldI_segs {P : Program} {ops : Array Oper} {Q : Exit → Act → World → Prop} {S : World → Prop} {fin : List Nat} {w : World} (aw : Bool) (hs : Region.noSelect ops = true) (n1 : Nat) :
    ∀ (seg : List Nat) (listed : Array Bool) (a : Act), (NoFin fin listed → S w) → segOkI ops fin aw seg listed = true → (aw = true → NoFin fin listed) →
      wpQuiet P ops (fun w' => ∃ x : Cw (cls aw S), w' = x.w) (fun a1 => HeldI P ops Q S fin n1 (listAll seg listed) a1 w) (seg.map fun i => ops.getD i default) a →
      HeldI P ops Q S fin (n1 + seg.length) listed a w
  | [], _, _, _, _, _, h => h
  | i :: seg, listed, a, hS, hB, hN, h => by
    simp only [segOkI, Bool.and_eq_true, Bool.or_eq_true, Bool.not_eq_true'] at hB
    obtain ⟨⟨⟨⟨⟨h1, ha⟩, hif⟩, hf⟩, hr⟩, hB⟩ := hB
    have hif' : i ∉ fin := by simpa using hif
    have hA : aw = true → awaitedI ops fin i = true := fun k => (ha.resolve_left (by simp [k])).1
    have hC : aw = true → Closed ops listed := fun k => closedB_spec (ha.resolve_left (by simp [k])).2
    have hN' : aw = true → NoFin fin (listed.setIfInBounds i true) := fun k => (hN k).set hif'
    have hui := (mem_ready.1 (by simpa using hr : i ∈ Region.ready .any ops listed)).1
    have hS' : NoFin fin (listed.setIfInBounds i true) → S w := fun k => hS (k.unset hui)
    cases ho : ops[i]? with
    | none => simp [ho] at h1
    | some o =>
      simp only [ho] at h1
      have e : ops.getD i default = o := by
        obtain ⟨hi, ho'⟩ := Array.getElem?_eq_some_iff.1 ho
        simp [Array.getD, hi, ho']
      simp only [List.map_cons, e, wpQuiet] at h
      by_cases hw : Region.wanted o (yielded ops a.tmps) = true
      · rw [if_pos hw] at h
        obtain ⟨v, hq, hn⟩ := h
        refine HeldI.first aw ho hs hif' hA _ _ _ _ hf (by simpa using hr) (v := v) (.inl ⟨hw, fun w1 hw1 => ?_⟩) hS hN hC (heldI_segs aw hs n1 seg _ _ hS' hB hN' hn)
        have h2 := hq w1 ⟨⟨w1, hw1⟩, rfl⟩
        have h3 := vals_plain (P := P) (ρ := a.eval) h1 w1
        unfold Oper.quietAt at h2
        generalize (execOp a.eval o).run P w1 = r at *
        cases r with
        | ok nx w2 =>
          cases nx <;> simp only [Oper.quietUpon, Vals] at h2 h3
          obtain ⟨rfl, rfl⟩ := h2
          rfl
        | halt x w2 => simp only [Oper.quietUpon] at h2
      · rw [if_neg hw] at h
        exact HeldI.first aw ho hs hif' hA _ _ _ _ hf (by simpa using hr) (v := undef) (.inr ⟨by simpa using hw, rfl⟩) hS hN hC (heldI_segs aw hs n1 seg _ _ hS' hB hN' h)

/-- The operations of a mask are taken first: each only looks. 'aw': they look at what the class S says, and each of the last ones waits for them; else they look at nothing. -/
theorem heldI_seg {P : Program} {l : List Oper} {Q : Exit → Act → World → Prop} {S : World → Prop} {fin : List Nat} {w : World} {n : Nat} {listed : Array Bool} {a : Act} (aw : Bool) (m : List Bool) (n1 : Nat)
    (hB : maskOkI l.toArray fin aw m listed n n1 = true) (hS : S w)
    (h : wpQuiet P l.toArray (fun w' => ∃ x : Cw (cls aw S), w' = x.w) (fun a1 => HeldI P l.toArray Q S fin n1 (listAll (idxB 0 m) listed) a1 w) (pickB m l) a) : HeldI P l.toArray Q S fin n listed a w := by
  simp only [maskOkI, Bool.and_eq_true, beq_iff_eq, decide_eq_true_eq, Bool.or_eq_true, Bool.not_eq_true'] at hB
  obtain ⟨⟨⟨⟨hs, hB⟩, rfl⟩, hm⟩, hN⟩ := hB
  have hN' : aw = true → NoFin fin listed := fun k c hc => by
    have h1 := hN.resolve_left (by simp [k])
    simpa using List.all_eq_true.1 h1 c hc
  refine heldI_segs aw hs n1 (idxB 0 m) listed a (fun _ => hS) hB hN' ?_
  rw [(pickB_idx l.toArray m 0 l (by simp) (by simpa using hm)).1]
  exact h

/-- Behind the last ones: nothing is asked of the world any more. -/
theorem heldI_rest {P : Program} {l : List Oper} {Q : Exit → Act → World → Prop} {S : World → Prop} {fin : List Nat} {w : World} {n : Nat} {listed : Array Bool} {a : Act} (m : List Bool) (n1 : Nat)
    (hF : noFinB fin listed = false) (hB : maskOkI l.toArray fin false m listed n n1 = true)
    (h : wpQuiet P l.toArray (fun w' => ∃ x : Cw (cls false S), w' = x.w) (fun a1 => HeldI P l.toArray Q S fin n1 (listAll (idxB 0 m) listed) a1 w) (pickB m l) a) : HeldI P l.toArray Q S fin n listed a w := by
  simp only [maskOkI, Bool.and_eq_true, beq_iff_eq, decide_eq_true_eq, Bool.or_eq_true, Bool.not_eq_true'] at hB
  obtain ⟨⟨⟨⟨hs, hB⟩, rfl⟩, hm⟩, hN⟩ := hB
  refine heldI_segs false hs n1 (idxB 0 m) listed a (fun k => ?_) hB (fun h => by cases h) ?_
  · have : noFinB fin listed = true := List.all_eq_true.2 fun c hc => by simpa using k c hc
    rw [this] at hF
    cases hF
  · rw [(pickB_idx l.toArray m 0 l (by simp) (by simpa using hm)).1]
    exact h

/-- The one operation that may come up now is carried out. -/
theorem heldI_one {P : Program} {ops : Array Oper} {Q : Exit → Act → World → Prop} {S : World → Prop} {fin : List Nat} {w : World} {n : Nat} {listed : Array Bool} {a : Act} (i : Nat) {o : Oper}
    (hr : Region.ready .any ops listed = [i]) (ho : ops[i]? = some o) (hw : Region.wanted o (yielded ops a.tmps) = true)
    (h : ∀ K : Act → World → Prop, (∀ a' w', (NoFin fin (listed.setIfInBounds i true) → S w') → HeldI P ops Q S fin n (listed.setIfInBounds i true) a' w' → K a' w') → o.wpIn Fence.wide 3 P a w K (NoPanic Q)) : HeldI P ops Q S fin (n + 1) listed a w := by
  refine ⟨fun h0 => (by rw [h0] at hr; cases hr), fun j hj => ?_⟩
  rw [hr] at hj
  obtain rfl : j = i := by simpa using hj
  unfold wpOpIn
  simp only [ho, hw, if_true]
  exact h _ (fun _ _ h1 h2 => ⟨h1, h2⟩)

/-- .. and it is one of the last ones. -/
theorem heldI_fin {P : Program} {ops : Array Oper} {Q : Exit → Act → World → Prop} {S : World → Prop} {fin : List Nat} {w : World} {n : Nat} {listed : Array Bool} {a : Act} (i : Nat) {o : Oper}
    (hr : Region.ready .any ops listed = [i]) (ho : ops[i]? = some o) (hw : Region.wanted o (yielded ops a.tmps) = true) (hf : i ∈ fin)
    (h : ∀ K : Act → World → Prop, (∀ a' w', HeldI P ops Q S fin n (listed.setIfInBounds i true) a' w' → K a' w') → o.wpIn Fence.wide 3 P a w K (NoPanic Q)) : HeldI P ops Q S fin (n + 1) listed a w :=
  heldI_one i hr ho hw fun K hK => h K fun a' w' k => hK a' w' (fun hN => by
    have h1 := hN i hf
    by_cases hi : i < listed.size
    · simp [hi] at h1
    · simp [hi] at h1) k

theorem heldI_skip {P : Program} {ops : Array Oper} {Q : Exit → Act → World → Prop} {S : World → Prop} {fin : List Nat} {w : World} {n : Nat} {listed : Array Bool} {a : Act} (i : Nat) {o : Oper}
    (hr : Region.ready .any ops listed = [i]) (ho : ops[i]? = some o) (hw : Region.wanted o (yielded ops a.tmps) = false) (hS : S w)
    (h : HeldI P ops Q S fin n (listed.setIfInBounds i true) (a.put o.dst undef) w) : HeldI P ops Q S fin (n + 1) listed a w := by
  refine ⟨fun h0 => (by rw [h0] at hr; cases hr), fun j hj => ?_⟩
  rw [hr] at hj
  obtain rfl : j = i := by simpa using hj
  unfold wpOpIn
  simp only [ho, hw]
  exact ⟨fun _ _ => trivial, fun _ => hS, h⟩

theorem heldI_done {P : Program} {ops : Array Oper} {Q : Exit → Act → World → Prop} {S : World → Prop} {fin : List Nat} {w : World} {listed : Array Bool} {a : Act}
    (hr : Region.ready .any ops listed = []) (h : Q .normal a w) : ∀ n, HeldI P ops Q S fin n listed a w
  | 0 => ⟨hr, h⟩
  | _ + 1 => ⟨fun _ => h, fun i hi => by rw [hr] at hi; cases hi⟩

end Go.Proofs.YtifeapnhemolgaaGreatDoor.HL
