/- Parse: its walk. -/
import Derived.Test.YtifeapnhemolgaaGreatDoorUb
import Derived.Test.YtifeapnhemolgaaGreatDoorUa
import Derived.Lib.AtoiErrMem
namespace Go.Proofs.YtifeapnhemolgaaGreatDoor.Wk
open Go Go.RowKit Go.Proofs.YtifeapnhemolgaaGreatDoor.HL Go.Proofs.YtifeapnhemolgaaGreatDoor.Pl

/-- What the library's functions ask of its variables, in all worlds that hold H. -/
structure LibOk (S : World) (H : Hp) : Prop where
  tab : TabOk S H
  len : ∃ m, ∀ w', Has S w' H → w'.cell? ⟨0, 0, none⟩ = some (.int .i64 m)
  syn : ∃ tp p, ∀ w', Has S w' H → w'.var? Tryz.prog "strconv.ErrSyntax" = some #[.iface tp p]
  rng : ∃ tp p, ∀ w', Has S w' H → w'.var? Tryz.prog "strconv.ErrRange" = some #[.iface tp p]

theorem LibOk.more {S : World} {H : Hp} (h : LibOk S H) (X : Hp) : LibOk S (X ++ H) := by
  obtain ⟨h1, ⟨m, h2⟩, ⟨a, b, h3⟩, ⟨c, d, h4⟩⟩ := h
  exact ⟨h1.more X, ⟨m, fun w' hw => h2 w' hw.right⟩, ⟨a, b, fun w' hw => h3 w' hw.right⟩, ⟨c, d, fun w' hw => h4 w' hw.right⟩⟩

theorem atoi_ok (S w : World) (H : Hp) (hw : Has S w H) (s : ByteArray) (hs : s.size ≤ 4294967280) (v : Int) (h : Lib.atoiAll s.data.toList = .ok v) :
    Calls Tryz.prog 29 #[.string s] w fun e w' => e = .returned (.tuple #[.int .i64 v, .nilIface]) ∧ Has S w' H := by
  refine (Tryz.strconv_Atoi_ok s (by omega) v h w).mono ?_
  rintro e w' ⟨rfl, rfl | ⟨t, rfl⟩⟩
  · exact ⟨rfl, hw⟩
  · exact ⟨rfl, hw.below (Lib.bytesWorld_below w _ t)⟩

theorem atoi_bad (S w : World) (H : Hp) (hw : Has S w H) (hL : LibOk S H) (s : ByteArray) (hs : s.size ≤ 4294967280) (h : ∀ v, Lib.atoiAll s.data.toList ≠ .ok v) :
    Calls Tryz.prog 29 #[.string s] w fun e w' => ∃ z t p, e = .returned (.tuple #[.int .i64 z, .iface t (.pointer p)]) ∧ Has S w' H := by
  rcases hc : Lib.atoiAll s.data.toList with v | _ | _
  · exact absurd hc (h v)
  · obtain ⟨tp, p, hv⟩ := hL.syn
    refine (Tryz.strconv_Atoi_syntax_var s (by omega) hc tp p w (hv w hw)).mono ?_
    rintro e w' ⟨N, rfl, _, _, hB⟩
    exact ⟨_, _, _, rfl, hw.below hB⟩
  · obtain ⟨tp, p, hv⟩ := hL.rng
    refine (Tryz.strconv_Atoi_range_var s (by omega) hc tp p w (hv w hw)).mono ?_
    rintro e w' ⟨N, rfl, _, _, hB⟩
    exact ⟨_, _, _, rfl, hw.below hB⟩

theorem cut_calls (S w : World) (H : Hp) (hw : Has S w H) (hL : LibOk S H) (s sep : ByteArray) (hs : s.size ≤ 4294967280) :
    Calls Tryz.prog 28 #[.string s, .string sep] w fun e w' => e = .returned (.tuple #[.string ⟨(Lib.cut s.data.toList sep.data.toList).1.toArray⟩, .string ⟨(Lib.cut s.data.toList sep.data.toList).2.1.toArray⟩, .bool (Lib.cut s.data.toList sep.data.toList).2.2]) ∧ Has S w' H := by
  obtain ⟨m, hm⟩ := hL.len
  refine (Tryz.strings_Cut s sep m w (by omega) (hm w hw)).mono ?_
  rintro e w' ⟨rfl, n, rfl⟩
  exact ⟨rfl, hw.drewN n⟩

theorem split_calls (S w : World) (H : Hp) (hw : Has S w H) (hL : LibOk S H) (s : ByteArray) (hs : s.size ≤ 4294967280) :
    Calls Tryz.prog 27 #[.string s, .string ⟨#[32]⟩] w fun e w' => ∃ ws : List ByteArray, ws.map (·.data.toList) = Lib.split s.data.toList [32] ∧ ws.length ≤ 4294967282 ∧ e = .returned (.slice (some ⟨w.heap.size, 0, none⟩) ws.length ws.length) ∧ Has S w' ((w.heap.size, .cells (ws.map Value.string).toArray 9 (0, 0)) :: H) := by
  obtain ⟨m, hm⟩ := hL.len
  refine (Tryz.strings_Split s ⟨#[32]⟩ m w (by omega) (hm w hw) (by decide)).mono ?_
  rintro e w' ⟨rfl, rfl⟩
  refine ⟨_, ?_, ?_, ?_, hw.alloc _⟩
  · rw [Lib.splitB_data]
    rfl
  · rw [Lib.splitB_all ⟨#[32]⟩ (by decide) 0 _ s rfl]
    have := Lib.countB_le ⟨#[32]⟩ (by decide) s.size s (Nat.le_refl _)
    omega
  · rw [Lib.splitB_all ⟨#[32]⟩ (by decide) 0 _ s rfl]

end Go.Proofs.YtifeapnhemolgaaGreatDoor.Wk
