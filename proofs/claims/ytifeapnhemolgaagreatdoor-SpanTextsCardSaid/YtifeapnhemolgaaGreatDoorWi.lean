/- A copy of spans; wider spans; the spans' list out of many. -/
import Derived.Test.YtifeapnhemolgaaGreatDoorWg
import Derived.Test.YtifeapnhemolgaaGreatDoorWh
namespace Go.Proofs.YtifeapnhemolgaaGreatDoor.Wk
open Go Go.RowKit Go.Proofs.YtifeapnhemolgaaGreatDoor.HL Go.Proofs.YtifeapnhemolgaaGreatDoor.Pl

theorem sl_news {S w : World} {H : Hp} {sz n c : Nat} {a : Addr} {xs : List Value} (h : SlIn H sz (.slice (some a) n c) n xs) (hw : Has S w H) : ∀ j u, xs[j]? = some u → w.cell? (a.add j) = some u := by
  intro j u hj
  obtain ⟨hl, ao, cap, he, hn, hr⟩ := h
  have hlt := (List.getElem?_eq_some_iff.1 hj).1
  have h0 : 0 < n := by
    rcases Nat.eq_zero_or_pos n with h | h
    · subst h; simp at hl; subst hl; simp at hlt
    · exact h
  obtain ⟨b, off, rfl, r⟩ := hr h0
  simp only [Value.slice.injEq, Option.some.injEq] at he
  obtain ⟨rfl, _, rfl⟩ := he
  have hadd : (⟨b, off, none⟩ : Addr).add j = ⟨b, off + j, none⟩ := by unfold Addr.add; split <;> simp_all
  rw [hadd]
  exact r.cell hw hj

theorem spc_one (la : List Sp) : ∀ u, u ∈ spc la → u.oneCell' = true := by
  intro u hu
  simp only [spc, List.mem_flatMap] at hu
  obtain ⟨s, _, hs⟩ := hu
  simp at hs
  rcases hs with rfl | rfl <;> rfl

theorem clone_calls (S w : World) (H : Hp) (hw : Has S w H) (va : Value) (la : List Sp) (ha : SlIn H 2 va la.length (spc la)) (hm : la.length ≤ 100000) :
    Calls Tryz.prog 36 #[va] w fun e w' => ∃ v Hs, e = .returned v ∧ SlR 41 2 v la.length (spc la) Hs ∧ Has S w' (Hs ++ H) := by
  obtain ⟨i0, hi, hz0, hz1, hz2⟩ := info_parts infoSp
  have ha' := ha
  obtain ⟨_, aa, ca, rfl, hca, hra⟩ := ha'
  have heq := fun w a n c => Lib.run_eql_slice_nil (P := Tryz.prog) w 22 41 a n c 0 0 Tryz.underlying22
  cases aa with
  | none =>
    have h0 : la = [] := by
      rcases Nat.eq_zero_or_pos la.length with h | h
      · exact List.eq_nil_of_length_eq_zero h
      · obtain ⟨b, off, he, _⟩ := hra h; cases he
    subst h0
    go_enter Tryz.func36, Tryz.ntmps36
    go_wp2
    go_ret
    exact ⟨_, [], rfl, SlR.nil _ _, hw⟩
  | some ad =>
    have hx := hw.alloc (.cells #[] 41)
    have hv : SlR 41 2 (.slice (some ⟨w.heap.size, 0, none⟩) 0 0) 0 [] [(w.heap.size, .cells #[] 41 (0, 0))] := SlR.made (c := #[]) rfl (by unfold maxLen; omega)
    have hn := sl_news ha hw
    have hn2 : ∀ j u, (spc la)[j]? = some u → (w.alloc (.cells #[] 41)).cell? (ad.add j) = some u := sl_news (ha.mono fun p hp => List.mem_cons_of_mem _ hp) hx
    clear hra hn
    have HN := Lib.hid hn2
    clear hn2
    go_enter Tryz.func36, Tryz.ntmps36
    go_wp2_with (at_builtin; refine wpList_append (S := S) (F := H) rfl _ _ 22 rfl Tryz.underlying22 hi hz0 hz1 hz2 rfl (by decide) rfl hv hx ad la.length ca (spc la) rfl (spc_length la) HN.out (spc_one la) (by unfold maxLen; omega) (by omega) ?_; intro v' w7 Hs' hv' hw7 _)
    go_ret
    exact ⟨v', Hs', rfl, by simpa using hv', hw7⟩

end Go.Proofs.YtifeapnhemolgaaGreatDoor.Wk
