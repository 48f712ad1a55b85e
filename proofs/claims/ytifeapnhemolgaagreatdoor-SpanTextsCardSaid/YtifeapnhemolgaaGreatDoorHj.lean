/- A loop's body that writes its own variable: what it keeps. -/
import Derived.Test.YtifeapnhemolgaaGreatDoorHi
namespace Go.Proofs.YtifeapnhemolgaaGreatDoor.HL
open Go Go.RowKit

theorem Has.self {S w : World} {H : Hp} (h : Has S w H) : Has w w H := ⟨rfl, rfl, rfl, Nat.le_refl _, h.nd, h.get⟩

/-- A function that holds a loop over an iterator: its contract from its body. -/
theorem calls_marks {P : Program} {f : FuncId} {fn : Func} {c : Code} {args : Array Value} {w : World} {R : Ending → World → Prop} (hf : P.funcs[f]? = some fn) (hb : fn.body = some c)
    (h : c.wp P (bodyPostM Fence.wide 4 P fn R) { tmps := args ++ Array.replicate (fn.ntmps - args.size) undef, defers := [] } w) : Calls P f args w R :=
  callsIn_wide.1 (callsIn_of_wp_marks hf hb trivial (wpIn_wide.2 h))

/-- A variable in a box of its own is written. -/
theorem Has.setBox {S w : World} {A C : Hp} {Bo : Nat} {v : Value} {T : TypeId} (h : Has S w (A ++ ((Bo, .cells #[v] T (0, 0)) :: C))) (v' : Value) : Has S (w.setCell ⟨Bo, 0, none⟩ v') (A ++ ((Bo, .cells #[v'] T (0, 0)) :: C)) := by
  have h1 := (h.perm (List.perm_middle)).setCell (o := 0) v'
  exact h1.perm List.perm_middle.symm

/-- One block more is held. -/
theorem Has.also {S w : World} {H : Hp} (h : Has S w H) {b : Nat} {o : Obj} (hb : w.heap[b]? = some o) (hn : ∀ p, p ∈ H → p.1 ≠ b) : Has S w ((b, o) :: H) :=
  ⟨h.os, h.tape, h.out, h.size, by
    simp only [List.map_cons, List.nodup_cons]
    exact ⟨fun hm => by obtain ⟨p, hp, e⟩ := List.mem_map.1 hm; exact hn p hp e, h.nd⟩, fun p hp => by
    rcases List.mem_cons.1 hp with rfl | hp
    · exact hb
    · exact h.get p hp⟩

theorem Has.putObj {S w : World} {H : Hp} {b : Nat} {o : Obj} (h : Has S w ((b, o) :: H)) (o' : Obj) : Has S (w.putObj b o') H := by
  have hn := h.nd
  simp only [List.map_cons, List.nodup_cons] at hn
  refine ⟨h.os, h.tape, h.out, by have := h.size; simpa [World.putObj] using this, hn.2, fun p hp => ?_⟩
  rw [World.putObj_heap_other (fun e => hn.1 (List.mem_map.2 ⟨p, hp, e⟩))]
  exact h.get p (List.mem_cons_of_mem _ hp)

/-- All blocks of a world but some. -/
def Rest (W : World) (K : Hp) : Hp := (Hall W).filter fun p => !(K.map Prod.fst).contains p.1

theorem mem_Rest {W : World} {K : Hp} {p : Nat × Obj} : p ∈ Rest W K ↔ W.heap[p.1]? = some p.2 ∧ p.1 ∉ K.map Prod.fst := by
  unfold Rest
  rw [List.mem_filter, mem_Hall]
  simp

theorem Has.rest {S W : World} {K : Hp} (h : Has S W K) : Has W W (K ++ Rest W K) := by
  refine ⟨rfl, rfl, rfl, Nat.le_refl _, ?_, fun p hp => ?_⟩
  · rw [List.map_append, List.nodup_append]
    refine ⟨h.nd, ((Has.all W).nd).sublist (List.Sublist.map _ (List.filter_sublist)), fun x hx y hy e => ?_⟩
    obtain ⟨q, hq, rfl⟩ := List.mem_map.1 hy
    exact (mem_Rest.1 hq).2 (e ▸ hx)
  · rcases List.mem_append.1 hp with hp | hp
    · exact h.get p hp
    · exact (mem_Rest.1 hp).1

/-- What lies apart from K lies in the rest. -/
theorem Has.in_rest {S W : World} {K H : Hp} (h : Has S W (K ++ H)) : ∀ p, p ∈ H → p ∈ Rest W K := fun p hp => by
  refine mem_Rest.2 ⟨h.right.get p hp, fun hm => ?_⟩
  have hn := h.nd
  rw [List.map_append, List.nodup_append] at hn
  exact hn.2.2 _ hm _ (List.mem_map.2 ⟨p, hp, rfl⟩) rfl

theorem Has.of_rest {S W W' : World} {K K' H : Hp} (h : Has S W (K ++ H)) (h' : Has W W' (K' ++ Rest W K)) : Has S W' (K' ++ H) := by
  refine ⟨h'.os.trans h.os, h'.tape.trans h.tape, h'.out.trans h.out, Nat.le_trans h.size h'.size, ?_, fun p hp => ?_⟩
  · rw [List.map_append, List.nodup_append]
    refine ⟨h'.left.nd, h.right.nd, fun x hx y hy e => ?_⟩
    have hn := h'.nd
    rw [List.map_append, List.nodup_append] at hn
    obtain ⟨q, hq, rfl⟩ := List.mem_map.1 hy
    exact hn.2.2 _ hx _ (List.mem_map.2 ⟨q, h.in_rest q hq, rfl⟩) e
  · rcases List.mem_append.1 hp with hp | hp
    · exact h'.left.get p hp
    · exact h'.right.get p (h.in_rest p hp)

theorem SlR.own {E : TypeId} {sz n : Nat} {v : Value} {xs : List Value} {Hs : Hp} (h : SlR E sz v n xs Hs) : (v = .slice none 0 0 ∧ Hs = [] ∧ v.ownBlock = none) ∨ ∃ b o, Hs = [(b, o)] ∧ o.isCells = true ∧ v.ownBlock = some b := by
  obtain ⟨_, ⟨rfl, _, rfl⟩ | ⟨b, off, cap, c, rfl, _, _, rfl, _⟩⟩ := h
  · exact .inl ⟨rfl, rfl, rfl⟩
  · exact .inr ⟨b, _, rfl, rfl, rfl⟩

theorem ownB_box {S W : World} {H : Hp} {Bo : Nat} {v : Value} {T : TypeId} (h : Has S W H) (hm : (Bo, Obj.cells #[v] T (0, 0)) ∈ H) : ownB Bo W = v.ownBlock := by
  unfold ownB
  rw [h.cell (v := v) hm (o := 0) rfl]
  rfl

/-- A body that writes its own variable and what it owns, and nothing else: what it keeps. -/
theorem keepB_of {W W' : World} {E T : TypeId} {sz n n' Bo : Nat} {v v' : Value} {xs xs' : List Value} {Hs Hs' : Hp} (B : Nat) (h : SlR E sz v n xs Hs) (h' : SlR E sz v' n' xs' Hs') (hw : Has W W (Hs ++ [(Bo, .cells #[v] T (0, 0))]))
    (hw' : Has W W' (Hs' ++ [(Bo, .cells #[v'] T (0, 0))] ++ Rest W (Hs ++ [(Bo, .cells #[v] T (0, 0))]))) (hn : v' = .slice none 0 0 → v = .slice none 0 0) : KeepB B Bo W W' ∧ KeepsFrom B W W' := by
  have e1 := ownB_box (Bo := Bo) (v := v) (T := T) hw (by simp)
  have e2 := ownB_box (Bo := Bo) (v := v') (T := T) hw' (by simp)
  have hk : ∀ k o, W.heap[k]? = some o → k ≠ Bo → some k ≠ v.ownBlock → W'.heap[k]? = some o := fun k o hk hb ho => by
    refine hw'.right.get (k, o) (mem_Rest.2 ⟨hk, fun hm => ?_⟩)
    simp only [List.map_append, List.map_cons, List.map_nil, List.mem_append, List.mem_singleton] at hm
    rcases hm with hm | hm
    · rcases h.own with ⟨_, rfl, _⟩ | ⟨b, o', rfl, _, hv⟩
      · simp at hm
      · simp at hm; subst hm; exact ho hv.symm
    · exact hb hm
  refine ⟨⟨hw'.os, hw'.tape, hw'.out, hw'.size, fun k o h1 _ h2 h3 => hk k o h1 h2 (by rw [← e1]; exact h3), ?_⟩, ⟨hw'.size, fun k o _ h1 h2 => ?_⟩⟩
  · rw [e1, e2]
    rcases h'.own with ⟨hv', _, ho'⟩ | ⟨b', o', rfl, hc', ho'⟩
    · have := hn hv'
      subst this
      subst hv'
      exact .inl rfl
    · rw [ho']
      have hl' := hw'.lt (b := b') (o := o') (by simp)
      rcases Nat.lt_or_ge b' W.heap.size with hl | hg
      · refine .inl ?_
        have h1 : W.heap[b']? = some W.heap[b'] := Array.getElem?_eq_getElem hl
        have hnd := hw'.nd
        simp only [List.cons_append, List.map_cons, List.nodup_cons, List.mem_cons, List.nil_append] at hnd
        by_cases hb : some b' = v.ownBlock
        · exact hb
        · exact (hnd.1 (.inr (List.mem_map.2 ⟨(b', W.heap[b']), mem_Rest.2 ⟨h1, fun hm => by
            simp only [List.map_append, List.map_cons, List.map_nil, List.mem_append, List.mem_singleton] at hm
            rcases hm with hm | hm
            · rcases h.own with ⟨_, rfl, _⟩ | ⟨b, o2, rfl, _, hv⟩
              · simp at hm
              · simp at hm; subst hm; exact hb hv.symm
            · exact hnd.1 (.inl hm)⟩, rfl⟩))).elim
      · exact .inr ⟨b', rfl, hg, hl'⟩
  · refine hk k o h1 ?_ ?_
    · rintro rfl
      have := hw.get (k, .cells #[v] T (0, 0)) (by simp)
      rw [h1] at this
      cases this
      cases h2
    · intro e
      rcases h.own with ⟨_, _, hv⟩ | ⟨b, o2, rfl, hc, hv⟩
      · rw [hv] at e; cases e
      · rw [hv] at e
        cases e
        have := hw.get (k, o2) (by simp)
        rw [h1] at this
        cases this
        rw [hc] at h2
        cases h2

/-- 'append(s, x)' where x was just laid as a slice of its own, inside a fence. -/
theorem wpListIn_append_lit {F : Fence} {nF : Nat} {P : Program} {S X : World} {cs : Array Value} {E' : TypeId} {ops : Array Oper} {rest : List Oper} {o : Oper} {a : Act} {Q : Exit → Act → World → Prop} (hgd : o.guard = none) (s x : Operand) (t : TypeId)
    (ho : o.op = .call { callee := .builtin .append, args := #[s, x], argTypes := #[t, t] })
    {E : TypeId} {i : TypeInfo} {z : Value} {sz bytes : Nat} (ht : P.underlying t = some (.slice E)) (hi : P.info? E = some i) (hz : i.zero = some z)
    (hsize : i.size = sz) (hby : i.bytes = bytes) (hzs : z.cells.size = sz) (hsz : 0 < sz)
    {v : Value} {n : Nat} {xs : List Value} {Hs F' : Hp} {B m c : Nat} (hs : a.eval s = v) (hx : a.eval x = .slice (some ⟨B, 0, none⟩) m c) (hB : X.heap.size = B) (hv : SlR E sz v n xs Hs) (hX : Has S X (Hs ++ F'))
    (hl : cs.size = m * sz) (h1 : cs.toList.all (fun u => u.oneCell') = true)
    (h63 : n + m ≤ maxLen) (hbytes : (n + m) * bytes ≤ 140737488355328)
    (h : ∀ v' w' Hs', SlR E sz v' (n + m) (xs ++ cs.toList) Hs' → Has S w' (Hs' ++ F') → (v' = .slice none 0 0 ↔ v = .slice none 0 0 ∧ m = 0) → wpListIn F nF P ops Q rest (a.put o.dst v') w') : wpListIn F nF P ops Q (o :: rest) a (X.alloc (.cells cs E')) := by
  subst hB
  have hnews : ∀ j u, cs.toList[j]? = some u → (X.alloc (.cells cs E')).cell? ((⟨X.heap.size, 0, none⟩ : Addr).add j) = some u := by
    intro j u hj
    have hadd : (⟨X.heap.size, 0, none⟩ : Addr).add j = ⟨X.heap.size, j, none⟩ := by unfold Addr.add; split <;> simp_all
    rw [hadd]
    exact new_cell X cs E' j (by simpa using hj)
  obtain ⟨v', w', Hs', hr, h2, h3, h4⟩ := run_append_own (P := P) (ty := o.type) (c := c) ht hi hz hsize hby hzs hsz hv (hX.more (.cells cs E')) (by simpa using hl) hnews (List.all_eq_true.1 h1) h63 hbytes
  refine wpListIn_plain hgd fun K hK => ?_
  unfold Oper.wpIn
  refine ⟨by simp [Oper.about, ho, resolve, Target.leads, Sem.run_pure], ?_⟩
  rw [Oper.semAt_plain F _ _ (by rw [ho]; intro c hc'; cases hc')]
  simp [execOp, ho, resolve, invoke, builtin, hs, hx, hr, Result.andThen, Oper.uponIn]
  exact hK _ _ (h v' w' Hs' h2 h3 h4)

end Go.Proofs.YtifeapnhemolgaaGreatDoor.HL
