/- Sorting and striking doubles: the library's contracts over slices of one's own. -/
import Derived.Test.YtifeapnhemolgaaGreatDoorWl
import Derived.Test.YtifeapnhemolgaaGreatDoorSo
import Derived.Test.YtifeapnhemolgaaGreatDoorSh
import Derived.Test.YtifeapnhemolgaaGreatDoorPe
namespace Go.Proofs.YtifeapnhemolgaaGreatDoor.Wk
open Go Go.RowKit Go.Proofs.YtifeapnhemolgaaGreatDoor.HL Go.Proofs.YtifeapnhemolgaaGreatDoor.Pl Go.Sort

theorem sort_calls (S w : World) (F : Hp) (v : Value) (n : Nat) (zs : List Int) (Hs : Hp) (hv : SlR 3 1 v n (inc zs) Hs) (hw : Has S w (Hs ++ F)) (h0 : 0 < n) (hm : n ≤ 100000) :
    Calls Tryz.prog 72 #[v] w fun e w' => e = .returned (.tuple #[]) ∧ ∃ Hs', SlR 3 1 v n (inc (zs.mergeSort fun x y => decide (x ≤ y))) Hs' ∧ Has S w' (Hs' ++ F) := by
  obtain ⟨b, off, cap, rfl, hc, hlt, hl, hH, hk⟩ := SlR.row hv hw h0
  subst hl
  refine (Tryz.slices_Sort_int b off cap zs w hH hlt (by omega)).mono ?_
  rintro e w' ⟨rfl, k, os, rfl⟩
  obtain ⟨Hs', h1, h2⟩ := hk k os (zs.mergeSort fun x y => decide (x ≤ y)) (List.length_mergeSort zs)
  have h3 := h2 _ (Nat.le_refl _)
  rw [List.take_of_length_le (by rw [List.length_mergeSort]; exact Nat.le_refl _)] at h3
  exact ⟨rfl, Hs', h3, h1⟩

theorem compact_calls (S w : World) (F : Hp) (v : Value) (n : Nat) (zs : List Int) (Hs : Hp) (hv : SlR 3 1 v n (inc zs) Hs) (hw : Has S w (Hs ++ F)) (h0 : 0 < n) (hm : n ≤ 100000) :
    Calls Tryz.prog 73 #[v] w fun e w' => ∃ v' Hs', e = .returned v' ∧ SlR 3 1 v' (Lib.compact zs).length (inc (Lib.compact zs)) Hs' ∧ Has S w' (Hs' ++ F) := by
  obtain ⟨b, off, cap, rfl, hc, hlt, hl, hH, hk⟩ := SlR.row hv hw h0
  subst hl
  refine (Tryz.slices_Compact_int b off cap zs w hH (by omega) hc).mono ?_
  rintro e w' ⟨rfl, k, rfl⟩
  have hle := compact_le zs
  obtain ⟨Hs', h1, h2⟩ := hk k #[] (Lib.compact zs ++ List.replicate (zs.length - (Lib.compact zs).length) 0) (by simp; omega)
  rw [grow_empty] at h1
  have h3 := h2 _ hle
  rw [List.take_left] at h3
  exact ⟨_, Hs', rfl, h3, h1⟩

/-- A span's two cells. -/
def encSp (s : Sp) : List Value := [.int .i64 s.lo, .int .i64 s.hi]

instance : Inhabited Sp := ⟨⟨0, 0⟩⟩

theorem spc_enc (l : List Sp) : l.flatMap encSp = spc l := rfl

theorem ltLo (x y : Sp) : ltOf (fun x y : Sp => cmpI x.lo y.lo) x y = decide (x.lo < y.lo) := by
  unfold ltOf cmpI
  by_cases h1 : x.lo < y.lo
  · simp [h1]
  · by_cases h2 : y.lo < x.lo <;> simp [h1, h2]

theorem swoLo : SWO (ltOf fun x y : Sp => cmpI x.lo y.lo) where
  irrefl x := by rw [ltLo]; simp
  trans x y z h1 h2 := by rw [ltLo] at *; simp at *; omega
  ntrans x y z h1 h2 := by rw [ltLo] at *; simp at *; omega

/-- The closure that orders spans by their beginnings: two blocks are laid. -/
theorem byLo_grows (x y : Sp) (W : World) : Calls Tryz.prog 38 #[.agg #[.int .i64 x.lo, .int .i64 x.hi], .agg #[.int .i64 y.lo, .int .i64 y.hi]] W fun e w' => e = .returned (.int .i64 (cmpI x.lo y.lo)) ∧ ∃ q os', w' = grow (W.drewN q) os' := by
  go_enter Tryz.func38, Tryz.ntmps38
  go_wp2_with (go_at_call 39; refine (compare_calls _ _ _).mono ?_; rintro e w' ⟨rfl, rfl⟩)
  go_ret
  exact ⟨rfl, 0, _, by rw [alloc_eq_grow, alloc_eq_grow, grow_grow]; rfl⟩

theorem enters_byLo : ∀ args w, (callFunc 38 args).run Tryz.prog w = .ok (.enter 38 args) w := enters Tryz.func38 (by kernel_rfl) rfl

/-- Spans sorted by their beginnings: some order of the same spans. -/
def SortedLo (zs ys : List Sp) : Prop := ys.Perm zs ∧ ys.Pairwise (fun s t => s.lo ≤ t.lo)

theorem sortsp_calls (S w : World) (F : Hp) (v : Value) (n : Nat) (zs : List Sp) (Hs : Hp) (hv : SlR 41 2 v n (spc zs) Hs) (hw : Has S w (Hs ++ F)) (hm : n ≤ 100000) :
    Calls Tryz.prog 37 #[v, .func (.func 38) #[] #[]] w fun e w' => e = .returned (.tuple #[]) ∧ ∃ ys Hs', Hid (SortedLo zs ys) ∧ SlR 41 2 v n (spc ys) Hs' ∧ Has S w' (Hs' ++ F) := by
  have hzn : zs.length = n := by
    have h1 := hv.1
    have h2 := spc_length zs
    omega
  rcases Nat.eq_zero_or_pos n with h0 | h0
  · have hz : zs = [] := List.eq_nil_of_length_eq_zero (by omega)
    subst hz
    subst h0
    obtain ⟨ao, cap, rfl⟩ := int_form hv
    have h := AnyF.slices_SortFunc_none (P := Tryz.prog) (ρ := Tryz.laysSortSp_ren) { Tryz.laysSortSp with } ao cap (.func (.func 38) #[] #[]) w
    refine Calls.mono (f := 37) h ?_
    rintro e w' ⟨rfl, rfl⟩
    exact ⟨rfl, [], Hs, ⟨List.Perm.refl _, List.Pairwise.nil⟩, hv, hw⟩
  · obtain ⟨b, off, cap, rfl, hc, hlt, hH, hk⟩ := SlR.rowK (enc := encSp) (fun _ => rfl) (by decide) (zs := zs) hv hw h0 hzn
    subst hzn
    have h := AnyQ.slices_SortFunc Tryz.laysSortSp 2 Tryz.isAgg41 Tryz.sizeOf41 encSp (fun _ => rfl) (fun x v hv => by simp [encSp] at hv; rcases hv with rfl | rfl <;> rfl) (fun x y => cmpI x.lo y.lo) swoLo 38 #[] b off cap zs.toArray w enters_byLo (fun _ _ _ _ x y => byLo_grows x y _) hH hlt (by simp; omega)
    refine Calls.mono (f := 37) h ?_
    rintro e w' ⟨rfl, d', k, os, ⟨hp1, hp2, hp3⟩, hs, rfl⟩
    obtain ⟨ys⟩ := d'
    have hyl : ys.length = zs.length := by simpa using hp1
    obtain ⟨Hs', h1, h2⟩ := hk k os ys hyl
    refine ⟨rfl, ys, Hs', ⟨?_, ?_⟩, h2, h1⟩
    · have e1 : (ys.toArray.extract 0 zs.toArray.size).toList = ys := by
        simp only [Array.toList_extract, List.size_toArray, List.extract, List.drop_zero, Nat.sub_zero]
        exact List.take_of_length_le (by omega)
      have e2 : (zs.toArray.extract 0 zs.toArray.size).toList = zs := by
        simp only [Array.toList_extract, List.size_toArray, List.extract, List.drop_zero, Nat.sub_zero]
        exact List.take_of_length_le (Nat.le_refl _)
      rw [e1, e2] at hp3
      exact hp3
    · rw [List.pairwise_iff_getElem]
      intro i j hi hj hij
      have h3 := hs i j (Nat.zero_le _) hij (by simpa [hyl] using hj)
      rw [ltLo] at h3
      simp [hi, hj] at h3
      exact h3

end Go.Proofs.YtifeapnhemolgaaGreatDoor.Wk
