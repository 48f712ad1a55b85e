/- SpanCounts: its walk. -/
import Derived.Test.YtifeapnhemolgaaGreatDoorUd
import Derived.Test.YtifeapnhemolgaaGreatDoorTc
import Derived.Test.YtifeapnhemolgaaGreatDoorWs
import Derived.Test.YtifeapnhemolgaaGreatDoorPj
namespace Go.Proofs.YtifeapnhemolgaaGreatDoor.Wk
open Go Go.RowKit Go.Proofs.YtifeapnhemolgaaGreatDoor.HL Go.Proofs.YtifeapnhemolgaaGreatDoor.Pl

theorem small_out {f : Bool → Bool → Bool} {a b : List Sp} (ha : isSet a = true) (hb : isSet b = true) (h : a.length + b.length + 1 ≤ 128) : chosenOut f a b = chosen f a b ∧ chosenErr f a b = 0 := by
  have hl := chosen_count f ha hb
  unfold chosenErr chosenOut
  rw [ha, hb]
  simp only [Bool.and_self, if_true]
  rw [if_neg (by omega), if_neg (by omega)]
  exact ⟨rfl, rfl⟩

theorem size_ok (S w : World) (H : Hp) (hw : Has S w H) (va : Value) (la : List Sp) (ha : SlIn H 2 va la.length (spc la)) (hs : isSet la = true) :
    Calls Tryz.prog 15 #[va] w fun e w' => e = .returned (.tuple #[.int .i64 (sizeP la), .int .i64 0]) ∧ Has S w' H := by
  have h := size_calls S w H hw va la ha
  rw [show rankV 1099511627776 la = sizeP la by simp [rankV, hs, sizeP], show setE la = 0 by simp [setE, hs]] at h
  refine h.mono ?_
  rintro e w' ⟨rfl, hB⟩
  exact ⟨rfl, hw.below hB⟩

theorem rank_ok (S w : World) (H : Hp) (hw : Has S w H) (va : Value) (la : List Sp) (ha : SlIn H 2 va la.length (spc la)) (hs : isSet la = true) (x : Int) :
    Calls Tryz.prog 16 #[va, .int .i64 x] w fun e w' => e = .returned (.tuple #[.int .i64 (rankP x la), .int .i64 0]) ∧ Has S w' H := by
  have h := rank_calls S w H hw va la ha x
  rw [show rankV x la = rankP x la by simp [rankV, hs], show setE la = 0 by simp [setE, hs]] at h
  refine h.mono ?_
  rintro e w' ⟨rfl, hB⟩
  exact ⟨rfl, hw.below hB⟩

theorem nth_ok (S w : World) (H : Hp) (hw : Has S w H) (va : Value) (la : List Sp) (ha : SlIn H 2 va la.length (spc la)) (hs : isSet la = true) (i : Int) :
    Calls Tryz.prog 17 #[va, .int .i64 i] w fun e w' => (if 0 ≤ i ∧ i < sizeP la then ∃ y, nthL la i = some y ∧ e = .returned (.tuple #[.int .i64 y, .int .i64 0]) else e = .returned (.tuple #[.int .i64 0, .int .i64 6])) ∧ Has S w' H := by
  refine (nth_calls S w H hw va la ha i).mono ?_
  rintro e w' ⟨rfl, hB⟩
  refine ⟨?_, hw.below hB⟩
  by_cases hi : 0 ≤ i ∧ i < sizeP la
  · rw [if_pos hi]
    cases hn : nthL la i with
    | none => exact absurd ((nth_none (isSet_ok hs) i hi.1).1 hn) (by omega)
    | some y => exact ⟨y, rfl, by simp [nthV, nthE, hs, hi.1, hi.2, hn]⟩
  · rw [if_neg hi]
    have e1 : nthV la i = 0 := by unfold nthV; rw [if_neg fun h => hi h.2]
    have e2 : nthE la i = 6 := by unfold nthE; rw [if_pos hs, if_neg hi]
    rw [e1, e2]

theorem back_ok (S w : World) (H : Hp) (hw : Has S w H) (hL : LibOk S H) (la : List Sp) (hs : isSet la = true) :
    Calls Tryz.prog 9 #[.string ⟨(textV la).toArray⟩] w (MadeE S H la 0) := by
  have e : (⟨(textV la).toArray⟩ : ByteArray).data.toList = textL la := by simp [textV, hs]
  have hl := text_length hs
  have hz : (⟨(textV la).toArray⟩ : ByteArray).size ≤ 4294967280 := by
    have e2 : (⟨(textV la).toArray⟩ : ByteArray).size = (⟨(textV la).toArray⟩ : ByteArray).data.toList.length := (Array.length_toList).symm
    rw [e2, e]; omega
  have h := parse_calls S w H hw hL _ hz
  rw [e] at h
  have hf := form_is (formL_text hs)
  rw [hf.1, hf.2] at h
  exact h

end Go.Proofs.YtifeapnhemolgaaGreatDoor.Wk
