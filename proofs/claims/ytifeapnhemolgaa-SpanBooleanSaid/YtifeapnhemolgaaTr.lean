/- SpanBoolean: called with any three lists of spans it returns true, and each argument reads afterwards as it read before. -/
import Derived.Test.YtifeapnhemolgaaRows
import Derived.Test.YtifeapnhemolgaaTq
import Derived.Test.YtifeapnhemolgaaLb
namespace Go.Proofs.Ytifeapnhemolgaa
open Go.ChangeShapes Go.WideShapes Go.ChangeAt Go.RowKit Go.Proofs.Ytifeapnhemolgaa.HL Go.Proofs.Ytifeapnhemolgaa.Wk

set_option maxRecDepth 100000 in
theorem boolean_lifted (os : Os) (started : os.Started) (H : Type) (enc : TypeId × Value → H) :
    ReturnsInHanded {} Try.checked os 4 .any (Rows.spanBooleanSpec.pre6 enc Try.prog Try.f4 Rows.spanBooleanRow.domain false) (Rows.spanBooleanSpec.post enc Try.prog Try.f4 false true false false) := by
  refine returnsInHanded_of_change (C := Try.checked) lawOwn started (by kernel_rfl) Try.func4
    (ChangeSpec.witness6 (enc := enc) (C := Try.checked) false ⟨#[], #[.slice none 0 0, .slice none 0 0, .slice none 0 0], []⟩ 8 (by kernel_rfl) (by kernel_rfl) (by kernel_rfl) (by kernel_rfl)) ?_
  intro W base args ds gs before hval0 hW hcnd _
  have hval : ∀ (j : Nat) t v, Try.f4.params[j]? = some t → args[j]? = some v → Value.okWide Try.prog W .any base t v := hval0
  have hW' := hW
  obtain ⟨p, q, hA0, hV, rfl, hfz, hnd⟩ := hW
  have hA : DataW.TrodAll enc Try.prog W 0 (fun _ => true) true Try.f4.params.toList args.toList ds p := hA0
  rw [Try.params4] at hA hval
  obtain ⟨v0, v1, v2, d0, d1, d2, p0, p1, p2, rfl, rfl, rfl, h0, h1, h2⟩ := trodAll_three hA
  obtain ⟨rfl, rfl⟩ := trodVars_none hV
  obtain ⟨la, ha, hla⟩ := open_spans (hval 0 22 v0 rfl rfl) h0
  obtain ⟨lb, hb, hlb⟩ := open_spans (hval 1 22 v1 rfl rfl) h1
  obtain ⟨lc, hc, hlc⟩ := open_spans (hval 2 22 v2 rfl rfl) h2
  clear hA0 hval0
  have hlt : ∀ x ∈ (p0 ++ p1 ++ p2) ++ [], x.block < W.heap.size := fun x hx => hW'.lt x hx
  refine (boolean_walk W v0 v1 v2 la lb lc ha hb hc hla hlb hlc).mono fun e W' ⟨he, hw⟩ => ?_
  subst he
  exact ⟨_, rfl, post_of_below (pa := _) (pv := []) hW' (fun _ _ _ => trodAll_mk1 (shut_true true))
    (fun sp hsp => trodAll_mk3 (reads_on lawLaid (by kernel_rfl) (of_decide_eq_true (by kernel_rfl)) h0 hw hlt (fun x hx => by simp [hx]) hsp) (reads_on lawLaid (by kernel_rfl) (of_decide_eq_true (by kernel_rfl)) h1 hw hlt (fun x hx => by simp [hx]) hsp) (reads_on lawLaid (by kernel_rfl) (of_decide_eq_true (by kernel_rfl)) h2 hw hlt (fun x hx => by simp [hx]) hsp))
    (fun _ _ => rfl) (by simp) hw (ok_one (by kernel_rfl) rfl (ok_bool true))⟩

theorem boolean_holds : Rows.SpanBooleanSaid :=
  OpenClaim.holds_of_wide 4 Try.f4 rfl rfl rfl rfl rfl rfl rfl ⟨rfl, rfl, rfl, rfl, rfl⟩ rfl rfl rfl rfl rfl (by kernel_rfl) Try.func4 (by kernel_rfl)
    (of_decide_eq_true (by kernel_rfl)) (by unfold Func.isWrapper; first | (rw [if_pos (by decide +kernel)]; kernel_rfl) | (rw [if_neg (by decide +kernel)]; exact ⟨rfl, rfl⟩))
    (fun os started H enc _ => boolean_lifted os started H enc)

#print axioms boolean_holds

end Go.Proofs.Ytifeapnhemolgaa
