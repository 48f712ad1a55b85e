/- Regions whose order is open: walked once, over a class of worlds. -/
import Derived.Test.YtifeapnhemolgaaGreatDoorHl
import Derived.OrdersHeld
import Derived.Deep.Quiet
import Derived.Deep.QuietTactic
import Derived.BigQuiet
import Derived.Deep.RegionHeld3
import Derived.Lib.Hide
namespace Go.Proofs.YtifeapnhemolgaaGreatDoor.HL
open Go Go.RowKit

/-- A world of the class S. -/
structure Cw (S : World → Prop) where
  w : World
  h : S w

/-- What lay in W lies as it lay. -/
def Kept (W w : World) : Prop := Below W.heap.size W w

theorem Kept.refl (W : World) : Kept W W := Below.refl _ _
instance cwKept (W : World) : Nonempty (Cw (Kept W)) := ⟨⟨W, Kept.refl W⟩⟩

theorem Kept.drew {W w : World} (h : Kept W w) : Kept W w.drew := Below.drew h
theorem Kept.more {W w w' : World} (h : Kept W w) (hb : Below w.heap.size w w') : Kept W w' := Below.trans h (hb.mono h.size)

/-- A callee that leaves all as it is but for what it makes, in the class of a region. -/
theorem Calls.kept {P : Program} {f : FuncId} {args : Array Value} {W : World} {v : Value} {x : Cw (Kept W)}
    (h : Calls P f args x.w fun e w' => e = .returned v ∧ Below x.w.heap.size x.w w') :
    Calls P f args x.w fun e w' => e = .returned v ∧ ∃ y : Cw (Kept W), w' = y.w :=
  h.mono fun _ w' ⟨he, hb⟩ => ⟨he, ⟨w', x.h.more hb⟩, rfl⟩

theorem kept_cell {W : World} {a : Addr} {u : Value} (h : W.cell? a = some u) : ∀ x : Cw (Kept W), x.w.cell? a = some u := fun x => keep1 h x.h

theorem Has.cw {S W : World} {H : Hp} (h : Has S W H) (x : Cw (Kept W)) : Has S x.w H := h.below x.h

/-- A region that only looks, and calls what only looks. -/
theorem region_kept {P : Program} {id : Nat} {l : List Oper} {Q : Exit → Act → World → Prop} {a : Act} {W : World} (hm : P.follows .mixedOrders = true) (hB : Region.lexB .any l.toArray = true)
    (h : wpQuiet P l.toArray (fun w' => ∃ x : Cw (Kept W), w' = x.w) (fun a' => ∀ w', Kept W w' → Q .normal a' w') l a) : (Code.region id l.toArray true).wp P Q a W := by
  refine wp_region_quiet (C := fun w' => ∃ x : Cw (Kept W), w' = x.w) hm hB ⟨⟨_, (Kept.refl W).drew⟩, rfl⟩ ?_
  have e : (fun a' => ∀ w', (∃ x : Cw (Kept W), w' = x.w) → Q .normal a' w') = (fun a' => ∀ w', Kept W w' → Q .normal a' w') := by
    funext a'
    refine propext ⟨fun k w' hw => k w' ⟨⟨w', hw⟩, rfl⟩, ?_⟩
    rintro k _ ⟨x, rfl⟩
    exact k _ x.h
  rw [e]
  simpa using h

/-- The same over a class of one's own. -/
theorem region_cls {P : Program} {id : Nat} {l : List Oper} {Q : Exit → Act → World → Prop} {a : Act} {w : World} (S : World → Prop) (hm : P.follows .mixedOrders = true) (hB : Region.lexB .any l.toArray = true) (hS : S w.drew)
    (h : wpQuiet P l.toArray (fun w' => ∃ x : Cw S, w' = x.w) (fun a' => ∀ w', S w' → Q .normal a' w') l a) : (Code.region id l.toArray true).wp P Q a w := by
  refine wp_region_quiet (C := fun w' => ∃ x : Cw S, w' = x.w) hm hB ⟨⟨_, hS⟩, rfl⟩ ?_
  have e : (fun a' => ∀ w', (∃ x : Cw S, w' = x.w) → Q .normal a' w') = (fun a' => ∀ w', S w' → Q .normal a' w') := by
    funext a'
    refine propext ⟨fun k w' hw => k w' ⟨⟨w', hw⟩, rfl⟩, ?_⟩
    rintro k _ ⟨x, rfl⟩
    exact k _ x.h
  rw [e]
  simpa using h

/-! ### Regions in which something is written or made -/

/-- An operation that hands back a value or fails. -/
def plainOp : Op → Bool
  | .move _ | .assign _ | .pick .. | .load .. | .nilCheck _ | .binOp .. | .unOp .. | .convert .. | .fieldAddr .. | .field .. | .indexAddr .. | .index .. | .slice .. | .lookup .. | .extract .. | .build .. | .makeInterface .. => true
  | .call { callee := .builtin .len, .. } | .call { callee := .builtin .cap, .. } | .call { callee := .builtin .min, .. } | .call { callee := .builtin .max, .. } => true
  | _ => false

def Vals : Result Next → Prop
  | .ok (.value _) _ => True
  | .ok _ _ => False
  | .halt _ _ => True

theorem vals_v {P : Program} (s : Sem Value) (w : World) : Vals ((do pure (.value (← s)) : Sem Next).run P w) := by
  simp only [Sem.run_bind]
  cases s.run P w <;> simp [Result.andThen, Vals]

theorem vals_plain {P : Program} {ρ : Operand → Value} {o : Oper} (hn : plainOp o.op = true) (w : World) : Vals ((execOp ρ o).run P w) := by
  obtain ⟨dst, op, type, pos, after, guard⟩ := o
  cases op <;> simp only [plainOp, Bool.false_eq_true] at hn <;> simp only [execOp]
  case move => trivial
  case assign => trivial
  case pick c a b =>
    simp only [Sem.run_bind]
    cases (asBool (ρ c)).run P w <;> simp [Result.andThen, Vals]
  case nilCheck x =>
    generalize ρ x = v
    split
    · simp [runtimePanic, goPanic, Vals]
    · simp [runtimePanic, goPanic, Vals]
    · simp [runtimePanic, goPanic, Vals]
    · split
      · simp [runtimePanic, goPanic, Vals]
      · rename_i t u _
        simp only [Sem.run_bind, run_program, Result.andThen_ok]
        generalize (nilAhead _ t u _).run P w = r
        cases r with
        | ok y w' =>
          simp only [Result.andThen]
          split <;> simp [unsupported, Vals]
        | halt h w' => simp [Result.andThen, Vals]
      · simp [Vals]
    · trivial
  case call c =>
    obtain ⟨callee, args, ts⟩ := c
    cases callee with
    | value f => cases hn
    | invoke r m => cases hn
    | builtin b =>
      simp only [resolve, Sem.run_bind, Sem.run_pure, Result.andThen_ok, invoke]
      cases b <;> first | (cases hn; done) | exact vals_v _ w
  all_goals exact vals_v _ w

/-- The operations that a mask names. -/
def pickB : List Bool → List Oper → List Oper
  | true :: m, o :: l => o :: pickB m l
  | false :: m, _ :: l => pickB m l
  | _, _ => []

def idxB : Nat → List Bool → List Nat
  | k, true :: m => k :: idxB (k + 1) m
  | k, false :: m => idxB (k + 1) m
  | _, [] => []

def listAll : List Nat → Array Bool → Array Bool
  | [], l => l
  | i :: seg, l => listAll seg (l.setIfInBounds i true)

/-- Does each of the last ones wait for this one? -/
def awaited (ops : Array Oper) (fin : List Nat) (i : Nat) : Bool := fin.all fun c => match ops[c]? with
  | none => false
  | some o => o.after.any fun e => Region.binds .any e && e.on == i

/-- None of the last ones has come up. -/
def NoFin (fin : List Nat) (listed : Array Bool) : Prop := ∀ c, c ∈ fin → listed.getD c true = false

def noFinB (fin : List Nat) (listed : Array Bool) : Bool := fin.all fun c => !listed.getD c true

/-- May these be taken first, one behind the other? ('aw': each of the last ones waits for them.) -/
def segOk (ops : Array Oper) (fin : List Nat) (aw : Bool) : List Nat → Array Bool → Bool
  | [], _ => true
  | i :: seg, l => (match ops[i]? with | none => false | some o => plainOp o.op) && (!aw || awaited ops fin i) && !fin.contains i && Region.free .any ops l i && (Region.ready .any ops l).contains i && segOk ops fin aw seg (l.setIfInBounds i true)

/-- All that is asked of a mask. -/
def maskOk (ops : Array Oper) (fin : List Nat) (aw : Bool) (m : List Bool) (listed : Array Bool) (n n1 : Nat) : Bool :=
  Region.noSelect ops && segOk ops fin aw (idxB 0 m) listed && n == n1 + (idxB 0 m).length && m.length ≤ ops.size && (!aw || noFinB fin listed)

/-- Whatever order is picked from here on; as long as none of the last ones ('fin') has come up the class S holds. -/
def HeldP (P : Program) (ops : Array Oper) (Q : Exit → Act → World → Prop) (S : World → Prop) (fin : List Nat) : Nat → Array Bool → Act → World → Prop
  | 0, listed, a, w => Region.ready .any ops listed = [] ∧ NoPanic Q .normal a w
  | n + 1, listed, a, w => (Region.ready .any ops listed = [] → NoPanic Q .normal a w) ∧
    ∀ i, i ∈ Region.ready .any ops listed → wpOp P ops (NoPanic Q) i (fun a' w' => (NoFin fin (listed.setIfInBounds i true) → S w') ∧ HeldP P ops Q S fin n (listed.setIfInBounds i true) a' w') a w

theorem HeldP.any {P : Program} {ops : Array Oper} {Q : Exit → Act → World → Prop} {S : World → Prop} {fin : List Nat} : ∀ (n : Nat) (listed : Array Bool) (a : Act) (w : World), HeldP P ops Q S fin n listed a w → wpAny P .any ops (NoPanic Q) n listed a w
  | 0, _, _, _, h => h
  | n + 1, _, _, _, h => ⟨h.1, fun i hi => wpOp_mono (fun a' w' k => HeldP.any n _ a' w' k.2) (h.2 i hi)⟩

theorem held_start {P : Program} {id : Nat} {ops : Array Oper} {Q : Exit → Act → World → Prop} {a : Act} {w : World} (S : World → Prop) (fin : List Nat) (hm : P.follows .mixedOrders = true)
    (h : HeldP P ops Q S fin ops.size (Array.replicate ops.size false) a w.drew) : (Code.region id ops true).wp P Q a w :=
  wp_region_noPanic (wp_region_any hm (h.any _ _ _ _))

theorem awaited_spec {ops : Array Oper} {fin : List Nat} {i j : Nat} {oj : Oper} (h : awaited ops fin i = true) (hj : j ∈ fin) (ho : ops[j]? = some oj) : ∃ e, e ∈ oj.after ∧ Region.binds .any e = true ∧ e.on = i := by
  have := List.all_eq_true.1 h j hj
  simp only [ho] at this
  obtain ⟨e, he, hb⟩ := Array.any_eq_true'.1 this
  simp only [Bool.and_eq_true, beq_iff_eq] at hb
  exact ⟨e, he, hb.1, hb.2⟩

theorem NoFin.set {fin : List Nat} {listed : Array Bool} {j : Nat} (h : NoFin fin listed) (hj : j ∉ fin) : NoFin fin (listed.setIfInBounds j true) := fun c hc => by
  rw [getD_set_ne true (fun e : j = c => hj (by rw [e]; exact hc))]
  exact h c hc

theorem listed_lt {listed : Array Bool} {j : Nat} (hu : listed.getD j true = false) : j < listed.size := by
  rcases Nat.lt_or_ge j listed.size with hlt | hge
  · exact hlt
  · simp [Array.getElem?_eq_none hge] at hu

theorem NoFin.unset {fin : List Nat} {listed : Array Bool} {j : Nat} (h : NoFin fin (listed.setIfInBounds j true)) (hu : listed.getD j true = false) : NoFin fin listed := fun c hc => by
  by_cases e : j = c
  · subst e; exact hu
  · have := h c hc
    rwa [getD_set_ne true e] at this

/-- The class S, or all worlds. -/
def cls (aw : Bool) (S : World → Prop) (w : World) : Prop := aw = true → S w

instance clsFalse (S : World → Prop) : Nonempty (Cw (cls false S)) := ⟨⟨default, fun h => by cases h⟩⟩

theorem clsTrue {S : World → Prop} {w : World} (h : S w) : Nonempty (Cw (cls true S)) := ⟨⟨w, fun _ => h⟩⟩

/-- An operation that only looks may be carried out first: in every world of the class, if the last ones wait for it and none of them has come up ('aw'); or in every world at all. -/
theorem HeldP.first {P : Program} {ops : Array Oper} {Q : Exit → Act → World → Prop} {S : World → Prop} {fin : List Nat} {i : Nat} {o : Oper} {v : Value} (aw : Bool) (hi : ops[i]? = some o) (hs : Region.noSelect ops = true) (hif : i ∉ fin)
    (hA : aw = true → awaited ops fin i = true) :
    ∀ (n : Nat) (listed : Array Bool) (a : Act) (w : World), Region.free .any ops listed i = true → i ∈ Region.ready .any ops listed → YieldsIf P ops (cls aw S) o v a → (NoFin fin listed → S w) → (aw = true → NoFin fin listed) →
      HeldP P ops Q S fin n (listed.setIfInBounds i true) (a.put o.dst v) w → HeldP P ops Q S fin (n + 1) listed a w := by
  intro n
  induction n with
  | zero =>
    intro listed a w _ hr hy hS hN h
    have hu := (mem_ready.1 hr).1
    refine ⟨fun h0 => (by rw [h0] at hr; cases hr), fun j hj => ?_⟩
    by_cases e : j = i
    · subst e
      exact hy.wpOp hi (fun k => hS (hN k)) ⟨fun k => hS (k.unset hu), h⟩
    · have := ready_mono hj e
      rw [h.1] at this
      cases this
  | succ n ih =>
    intro listed a w hf hr hy hS hN h
    have hui := (mem_ready.1 hr).1
    refine ⟨fun h0 => (by rw [h0] at hr; cases hr), fun j hj => ?_⟩
    by_cases e : j = i
    · subst e
      exact hy.wpOp hi (fun k => hS (hN k)) ⟨fun k => hS (k.unset hui), h⟩
    · have h1 := h.2 j (ready_mono hj e)
      obtain ⟨hu, oj, hoj, hall⟩ := mem_ready.1 hj
      have hw : ∀ x, x ∈ oj.after → Region.binds .any x = true → x.on ≠ i := by
        intro x hx hb hxi
        have k1 := hall x hx hb
        rw [hxi] at k1
        have := listed_lt hui
        simp [this] at hui k1
        rw [hui] at k1
        cases k1
      have hap := Region.free_spec hi hf j oj hoj e hu hw
      have h2 := wpOp_putIf hoj hap (fun cs b => Region.noSelect_spec hs i o cs b hi) (fun cs b => Region.noSelect_spec hs j oj cs b hoj) (fun _ _ _ k => k) hy h1
      have hf' : Region.free .any ops (listed.setIfInBounds j true) i = true := by
        simp only [Region.free, hi, List.all_eq_true, List.mem_range] at hf ⊢
        intro k hk
        have := hf k hk
        by_cases hjk : j = k
        · subst hjk
          simp [listed_lt hu]
        · rwa [getD_set_ne true hjk]
      have hcomm : (listed.setIfInBounds j true).setIfInBounds i true = (listed.setIfInBounds i true).setIfInBounds j true := Array.setIfInBounds_comm _ _ e
      refine wpOp_mono (fun a' w' h3 => ?_) h2
      have hS' : NoFin fin (listed.setIfInBounds j true) → S w' := fun k => h3.2.1 (by rw [← hcomm]; exact k.set hif)
      refine ⟨hS', ih (listed.setIfInBounds j true) a' w' hf' (ready_mono hr (Ne.symm e)) h3.1 hS' (fun ha => ?_) (by rw [hcomm]; exact h3.2.2)⟩
      refine (hN ha).set fun hm => ?_
      obtain ⟨x, hx, hb, hxi⟩ := awaited_spec (hA ha) hm hoj
      exact hw x hx hb hxi

theorem pickB_idx (ops : Array Oper) : ∀ (m : List Bool) (k : Nat) (l : List Oper), (∀ j, l[j]? = ops[k + j]?) → k + m.length ≤ ops.size →
    (idxB k m).map (fun i => ops.getD i default) = pickB m l ∧ ∀ i, i ∈ idxB k m → i < ops.size
  | [], k, l, _, _ => by simp [idxB, pickB]
  | c :: m, k, [], hl, hm => by
    have := hl 0
    simp only [List.getElem?_nil, Nat.add_zero] at this
    have := Array.getElem?_eq_none_iff.1 this.symm
    simp at hm
    omega
  | c :: m, k, o :: l, hl, hm => by
    have ih := pickB_idx ops m (k + 1) l (fun j => by have := hl (j + 1); simpa [Nat.add_assoc, Nat.add_comm 1 j] using this) (by simp at hm; omega)
    have h0 : ops[k]? = some o := by simpa using (hl 0).symm
    have hk : k < ops.size := (Array.getElem?_eq_some_iff.1 h0).1
    have e : ops.getD k default = o := by simp [Array.getD, hk]; exact (Array.getElem?_eq_some_iff.1 h0).2
    cases c with
    | true => simp only [idxB, pickB, List.map_cons, e, ih.1, List.mem_cons]; exact ⟨trivial, fun i hi => hi.elim (fun h => h ▸ hk) (ih.2 i)⟩
    | false => simp only [idxB, pickB]; exact ih

theorem held_segs {P : Program} {ops : Array Oper} {Q : Exit → Act → World → Prop} {S : World → Prop} {fin : List Nat} {w : World} (aw : Bool) (hs : Region.noSelect ops = true) (hS : S w) (n1 : Nat) :
    ∀ (seg : List Nat) (listed : Array Bool) (a : Act), segOk ops fin aw seg listed = true → (aw = true → NoFin fin listed) →
      wpQuiet P ops (fun w' => ∃ x : Cw (cls aw S), w' = x.w) (fun a1 => HeldP P ops Q S fin n1 (listAll seg listed) a1 w) (seg.map fun i => ops.getD i default) a →
      HeldP P ops Q S fin (n1 + seg.length) listed a w
  | [], _, _, _, _, h => h
  | i :: seg, listed, a, hB, hN, h => by
    simp only [segOk, Bool.and_eq_true, Bool.or_eq_true, Bool.not_eq_true'] at hB
    obtain ⟨⟨⟨⟨⟨h1, ha⟩, hif⟩, hf⟩, hr⟩, hB⟩ := hB
    have hif' : i ∉ fin := by simpa using hif
    have hA : aw = true → awaited ops fin i = true := fun k => ha.resolve_left (by simp [k])
    have hN' : aw = true → NoFin fin (listed.setIfInBounds i true) := fun k => (hN k).set hif'
    cases ho : ops[i]? with
    | none => simp [ho] at h1
    | some o =>
      simp only [ho] at h1
      have e : ops.getD i default = o := by
        obtain ⟨hi, ho'⟩ := Array.getElem?_eq_some_iff.1 ho
        simp [Array.getD, hi, ho']
      simp only [List.map_cons, e, wpQuiet] at h
      by_cases hw : Region.wanted o (yielded ops a.tmps) = true
      · rw [if_pos hw] at h
        obtain ⟨v, hq, hn⟩ := h
        refine HeldP.first aw ho hs hif' hA _ _ _ _ hf (by simpa using hr) (v := v) (.inl ⟨hw, fun w1 hw1 => ?_⟩) (fun _ => hS) hN (held_segs aw hs hS n1 seg _ _ hB hN' hn)
        have h2 := hq w1 ⟨⟨w1, hw1⟩, rfl⟩
        have h3 := vals_plain (P := P) (ρ := a.eval) h1 w1
        unfold Oper.quietAt at h2
        generalize (execOp a.eval o).run P w1 = r at *
        cases r with
        | ok nx w2 =>
          cases nx <;> simp only [Oper.quietUpon, Vals] at h2 h3
          obtain ⟨rfl, rfl⟩ := h2
          rfl
        | halt x w2 => simp only [Oper.quietUpon] at h2
      · rw [if_neg hw] at h
        exact HeldP.first aw ho hs hif' hA _ _ _ _ hf (by simpa using hr) (v := undef) (.inr ⟨by simpa using hw, rfl⟩) (fun _ => hS) hN (held_segs aw hs hS n1 seg _ _ hB hN' h)

/-- The operations of a mask are taken first: each only looks. 'aw': they look at what the class S says, and each of the last ones waits for them; else they look at nothing. -/
theorem held_seg {P : Program} {l : List Oper} {Q : Exit → Act → World → Prop} {S : World → Prop} {fin : List Nat} {w : World} {n : Nat} {listed : Array Bool} {a : Act} (aw : Bool) (m : List Bool) (n1 : Nat)
    (hB : maskOk l.toArray fin aw m listed n n1 = true) (hS : S w)
    (h : wpQuiet P l.toArray (fun w' => ∃ x : Cw (cls aw S), w' = x.w) (fun a1 => HeldP P l.toArray Q S fin n1 (listAll (idxB 0 m) listed) a1 w) (pickB m l) a) : HeldP P l.toArray Q S fin n listed a w := by
  simp only [maskOk, Bool.and_eq_true, beq_iff_eq, decide_eq_true_eq, Bool.or_eq_true, Bool.not_eq_true'] at hB
  obtain ⟨⟨⟨⟨hs, hB⟩, rfl⟩, hm⟩, hN⟩ := hB
  have hN' : aw = true → NoFin fin listed := fun k c hc => by
    have h1 := hN.resolve_left (by simp [k])
    simpa using List.all_eq_true.1 h1 c hc
  refine held_segs aw hs hS n1 (idxB 0 m) listed a hB hN' ?_
  rw [(pickB_idx l.toArray m 0 l (by simp) (by simpa using hm)).1]
  exact h

/-- The one operation that may come up now is carried out. -/
theorem held_one {P : Program} {ops : Array Oper} {Q : Exit → Act → World → Prop} {S : World → Prop} {fin : List Nat} {w : World} {n : Nat} {listed : Array Bool} {a : Act} (i : Nat) {o : Oper}
    (hr : Region.ready .any ops listed = [i]) (ho : ops[i]? = some o) (hw : Region.wanted o (yielded ops a.tmps) = true)
    (h : ∀ K : Act → World → Prop, (∀ a' w', (NoFin fin (listed.setIfInBounds i true) → S w') → HeldP P ops Q S fin n (listed.setIfInBounds i true) a' w' → K a' w') → o.wp P a w K (NoPanic Q)) : HeldP P ops Q S fin (n + 1) listed a w := by
  refine ⟨fun h0 => (by rw [h0] at hr; cases hr), fun j hj => ?_⟩
  rw [hr] at hj
  obtain rfl : j = i := by simpa using hj
  unfold wpOp
  simp only [ho, hw, if_true]
  exact .inl (h _ (fun _ _ h1 h2 => ⟨h1, h2⟩))

/-- .. and it is one of the last ones. -/
theorem held_fin {P : Program} {ops : Array Oper} {Q : Exit → Act → World → Prop} {S : World → Prop} {fin : List Nat} {w : World} {n : Nat} {listed : Array Bool} {a : Act} (i : Nat) {o : Oper}
    (hr : Region.ready .any ops listed = [i]) (ho : ops[i]? = some o) (hw : Region.wanted o (yielded ops a.tmps) = true) (hf : i ∈ fin)
    (h : ∀ K : Act → World → Prop, (∀ a' w', HeldP P ops Q S fin n (listed.setIfInBounds i true) a' w' → K a' w') → o.wp P a w K (NoPanic Q)) : HeldP P ops Q S fin (n + 1) listed a w :=
  held_one i hr ho hw fun K hK => h K fun a' w' k => hK a' w' (fun hN => by
    have h1 := hN i hf
    by_cases hi : i < listed.size
    · simp [hi] at h1
    · simp [hi] at h1) k

theorem held_skip {P : Program} {ops : Array Oper} {Q : Exit → Act → World → Prop} {S : World → Prop} {fin : List Nat} {w : World} {n : Nat} {listed : Array Bool} {a : Act} (i : Nat) {o : Oper}
    (hr : Region.ready .any ops listed = [i]) (ho : ops[i]? = some o) (hw : Region.wanted o (yielded ops a.tmps) = false) (hS : S w)
    (h : HeldP P ops Q S fin n (listed.setIfInBounds i true) (a.put o.dst undef) w) : HeldP P ops Q S fin (n + 1) listed a w := by
  refine ⟨fun h0 => (by rw [h0] at hr; cases hr), fun j hj => ?_⟩
  rw [hr] at hj
  obtain rfl : j = i := by simpa using hj
  unfold wpOp
  simp only [ho, hw]
  exact ⟨fun _ => hS, h⟩

theorem held_done {P : Program} {ops : Array Oper} {Q : Exit → Act → World → Prop} {S : World → Prop} {fin : List Nat} {w : World} {listed : Array Bool} {a : Act}
    (hr : Region.ready .any ops listed = []) (h : Q .normal a w) : ∀ n, HeldP P ops Q S fin n listed a w
  | 0 => ⟨hr, h⟩
  | _ + 1 => ⟨fun _ => h, fun i hi => by rw [hr] at hi; cases hi⟩

end Go.Proofs.YtifeapnhemolgaaGreatDoor.HL
