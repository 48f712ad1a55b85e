/- The reference's Digits and Number: their walks. -/
import Derived.Test.YtifeapnhemolgaaGreatDoorQd
import Derived.Test.YtifeapnhemolgaaGreatDoorWa
import Derived.Lib.Hide
namespace Go.Proofs.YtifeapnhemolgaaGreatDoor.Wk
open Go Go.RowKit Go.Proofs.YtifeapnhemolgaaGreatDoor.HL Go.Proofs.YtifeapnhemolgaaGreatDoor.Pl Go.Lib

def emptyS : Value → Nat
  | .string s => if s.data.toList = [] then 1 else 0
  | _ => 0

theorem emptyS_le (v : Value) : emptyS v ≤ 1 := by
  cases v <;> simp only [emptyS] <;> first | omega | (split <;> omega)

theorem ret_string {a b : ByteArray} (h : a = b) : Ending.returned (.string a) = .returned (.string b) := by rw [h]

theorem digit_at (r : Nat) (h : r < 10) : ByteArray.extract ⟨#[48, 49, 50, 51, 52, 53, 54, 55, 56, 57]⟩ r (r + 1) = ⟨#[UInt8.ofNat (48 + r)]⟩ := by
  have : ∀ k : Fin 10, (ByteArray.extract ⟨#[48, 49, 50, 51, 52, 53, 54, 55, 56, 57]⟩ k.1 (k.1 + 1)).data = #[UInt8.ofNat (48 + k.1)] := by decide
  exact congrArg ByteArray.mk (this ⟨r, h⟩)

theorem cons_cat (b : UInt8) (l : List UInt8) : (⟨#[b]⟩ ++ ⟨l.toArray⟩ : ByteArray) = ⟨(b :: l).toArray⟩ := by
  apply ByteArray.ext
  simp

theorem digit_run (k : Nat) (h : k < 10) (w : World) : (Instr.slice 9 (.string ⟨#[48, 49, 50, 51, 52, 53, 54, 55, 56, 57]⟩) (some (.int .i64 (k : Int))) (some (.int .i64 ((k : Int) + 1))) none).run Tryz.prog w = .ok (.string ⟨#[UInt8.ofNat (48 + k)]⟩) w := by
  have e := run_slice_string (P := Tryz.prog) w 9 ⟨#[48, 49, 50, 51, 52, 53, 54, 55, 56, 57]⟩ .i64 .i64 (k : Int) ((k : Int) + 1) Tryz.underlying9 (by omega) (by omega) (by show (k : Int) + 1 ≤ 10; omega)
  rw [show ((k : Int) + 1).toNat = k + 1 by omega, Int.toNat_natCast, digit_at k h] at e
  exact e

theorem meas_down (a b : Int) (v u : Value) (h : a.natAbs < b.natAbs) : 2 * a.natAbs + emptyS v < 2 * b.natAbs + emptyS u := by
  have := emptyS_le v
  omega

set_option maxHeartbeats 1600000 in
set_option maxRecDepth 100000 in
theorem digits_calls (n : Int) (w : World) (h0 : -1000000000000000000 < n) (h1 : n < 1000000000000000000) :
    Calls Tryz.prog 26 #[.int .i64 n] w fun e w' => e = .returned (.string ⟨(itoa n).toArray⟩) ∧ w' = w := by
  have hlen : (decDigits n.natAbs).length ≤ 18 := by
    rw [decDigits_length]
    exact nDigits_le 18 n.natAbs (by decide) (by simp; omega)
  go_enter Tryz.func26, Tryz.ntmps26
  go_wp2
  go_loop [0, 3, 5] (fun a b _ => ∃ (m : Int) (out : List UInt8), -1000000000000000000 < m ∧ m < 1000000000000000000 ∧ a = .int .i64 m ∧ b = .string ⟨out.toArray⟩ ∧ Hid (digF m out = decDigits n.natAbs) ∧ out.length ≤ 18) (fun a b _ => 2 * (intOf a).natAbs + emptyS b)
  case atStart => exact ⟨n, [], h0, h1, rfl, rfl, digF_start n, by simp⟩
  case round =>
    obtain ⟨m, out, hm0, hm1, rfl, rfl, hF, hol⟩ := hrel
    have HT : (m.tmod 10).natAbs = m.natAbs % 10 := by rw [Int.natAbs_tmod]; rfl
    have HD : (m.tdiv 10).natAbs = m.natAbs / 10 := by rw [Int.natAbs_tdiv]; rfl
    have hlast : ∀ k : Nat, (m.tmod 10).natAbs = k → m ≠ 0 ∨ out = [] → ∃ (m' : Int) (out' : List UInt8), -1000000000000000000 < m' ∧ m' < 1000000000000000000 ∧ Value.int .i64 (m.tdiv 10) = .int .i64 m' ∧ Value.string (⟨#[UInt8.ofNat (48 + k)]⟩ ++ ⟨out.toArray⟩) = .string ⟨out'.toArray⟩ ∧ Hid (digF m' out' = decDigits n.natAbs) ∧ out'.length ≤ 18 := fun k hk hc => by
      have hst := digF_step m out hc
      rw [hk] at hst
      have h2 : (UInt8.ofNat (48 + k) :: out).length ≤ 18 := by
        have e1 := congrArg List.length (hst.trans hF.out)
        have e2 : (digF (m.tdiv 10) (UInt8.ofNat (48 + k) :: out)).length ≥ (UInt8.ofNat (48 + k) :: out).length := by
          unfold digF
          split
          · exact Nat.le_refl _
          · rw [List.length_append]; omega
        omega
      exact ⟨m.tdiv 10, _, by omega, by omega, rfl, by rw [cons_cat], hst.trans hF.out, h2⟩
    have HL := Lib.hid hlast
    clear hlast
    by_cases hm : m = 0
    · cases out with
      | nil =>
        have hsl := digit_run 0 (by decide)
        subst hm
        go_wp2
        exact ⟨HL.out 0 rfl (.inr rfl), by simp [intOf, emptyS]⟩
      | cons b l =>
        subst hm
        have ho : (b :: l).isEmpty = false := rfl
        generalize hbl : b :: l = out at *
        have hne : out ≠ [] := by rw [← hbl]; simp
        have HE := Lib.hid ((digF_end hne).symm.trans hF.out)
        clear hbl hne hF HL
        by_cases hn : n < 0
        · have hi := Lib.hid (itoa_neg hn)
          go_wp2
          go_ret
          exact ⟨ret_string (by rw [cons_cat, hi.out, ← HE.out]), rfl⟩
        · have hi := Lib.hid (itoa_pos hn)
          have hn' : 0 ≤ n := by omega
          go_wp2
          go_ret
          exact ⟨ret_string (by rw [hi.out, ← HE.out]), rfl⟩
    · have HDN := Lib.hid (show (m.tdiv 10).natAbs < m.natAbs by omega)
      rcases Int.lt_or_le (m.tmod 10) 0 with hs | hs
      · obtain ⟨k, hk⟩ : ∃ k : Nat, m.tmod 10 = -(k : Int) := ⟨(m.tmod 10).natAbs, by omega⟩
        have hk1 : k < 10 := by omega
        have hsl := digit_run k hk1
        have hl := HL.out k (by rw [hk]; omega) (.inl hm)
        generalize UInt8.ofNat (48 + k) = db at hsl hl
        have HLK := Lib.hid hl
        clear hl
        have HK := Lib.hid hk
        have hneg : (-(k : Int)) < 0 := by omega
        clear hs
        go_wp2
        exact ⟨HLK.out, meas_down _ _ _ _ HDN.out⟩
      · obtain ⟨k, hk⟩ : ∃ k : Nat, m.tmod 10 = (k : Int) := ⟨(m.tmod 10).natAbs, by omega⟩
        have hk1 : k < 10 := by omega
        have hsl := digit_run k hk1
        have hl := HL.out k (by rw [hk]; omega) (.inl hm)
        generalize UInt8.ofNat (48 + k) = db at hsl hl
        have HLK := Lib.hid hl
        clear hl
        have hk0 : (0 : Int) ≤ (k : Int) := by omega
        have HK := Lib.hid hk
        clear hs
        go_wp2
        exact ⟨HLK.out, meas_down _ _ _ _ HDN.out⟩

/-- Ten to the i. -/
def tenP (i : Nat) : Int := (10 : Int) ^ i
theorem tenP_succ (i : Nat) : tenP (i + 1) = 10 * tenP i := by unfold tenP; rw [Int.pow_succ]; omega
theorem tenP_le (i : Nat) (h : i ≤ 17) : tenP i ≤ 100000000000000000 := by
  have : ∀ k : Fin 18, tenP k.1 ≤ 100000000000000000 := by decide
  exact this ⟨i, by omega⟩

/-- What Number's loop holds. -/
def NumInv (l : List UInt8) (i : Nat) (n sg : Int) : Prop :=
  (i = 0 ∧ n = 0 ∧ sg = 1) ∨ (1 ≤ i ∧ (sg = 1 ∨ sg = -1) ∧ 0 ≤ n ∧ n < tenP i ∧ scanF l = (runF (l.drop i) n).map fun x => sg * x)

theorem num_bound {l : List UInt8} {i : Nat} {n sg : Int} (h : NumInv l i n sg) (hi : i ≤ 17) : 0 ≤ n ∧ n < 100000000000000000 ∧ (sg = 1 ∨ sg = -1) := by
  rcases h with ⟨_, rfl, rfl⟩ | ⟨_, h1, h2, h3, _⟩
  · exact ⟨by omega, by omega, .inl rfl⟩
  · have := tenP_le i hi
    exact ⟨h2, by omega, h1⟩

/-- The state behind the sign: as it was read. -/
theorem num_read {l : List UInt8} {i : Nat} {n sg : Int} (h : NumInv l i n sg) (hi : i < l.length) (hm : ¬ (i = 0 ∧ l[i] = 45)) : (sg = 1 ∨ sg = -1) ∧ 0 ≤ n ∧ n < tenP i ∧ scanF l = (runF (l.drop i) n).map fun x => sg * x := by
  rcases h with ⟨rfl, rfl, rfl⟩ | ⟨_, h1, h2, h3, h4⟩
  · refine ⟨.inl rfl, by omega, by decide, ?_⟩
    cases l with
    | nil => simp at hi
    | cons b r =>
      unfold scanF
      split
      · rename_i e
        cases e
        exact absurd ⟨rfl, rfl⟩ hm
      · rfl
  · exact ⟨h1, h2, h3, h4⟩

theorem num_sign {l : List UInt8} {n sg : Int} (h : NumInv l 0 n sg) (hi : 0 < l.length) (hm : l[0] = 45) : NumInv l 1 n (-1) := by
  rcases h with ⟨_, rfl, rfl⟩ | ⟨h0, _⟩
  · refine .inr ⟨Nat.le_refl _, .inr rfl, by omega, by decide, ?_⟩
    cases l with
    | nil => simp at hi
    | cons b r =>
      simp at hm
      subst hm
      rfl
  · omega

theorem num_digit {l : List UInt8} {i : Nat} {n sg : Int} (h : NumInv l i n sg) (hi : i < l.length) (hm : ¬ (i = 0 ∧ l[i] = 45)) (hd : 48 ≤ l[i].toNat ∧ l[i].toNat ≤ 57) : NumInv l (i + 1) (10 * n + ((l[i].toNat : Int) - 48)) sg := by
  obtain ⟨h1, h2, h3, h4⟩ := num_read h hi hm
  refine .inr ⟨by omega, h1, by omega, by rw [tenP_succ]; omega, ?_⟩
  rw [h4, List.drop_eq_getElem_cons hi, runF, if_pos hd]

theorem num_stop {l : List UInt8} {i : Nat} {n sg : Int} (h : NumInv l i n sg) (hi : i < l.length) (hm : ¬ (i = 0 ∧ l[i] = 45)) (hd : ¬ (48 ≤ l[i].toNat ∧ l[i].toNat ≤ 57)) : numV l = 0 ∧ numB l = false := by
  obtain ⟨_, _, _, h4⟩ := num_read h hi hm
  rw [List.drop_eq_getElem_cons hi, runF, if_neg hd] at h4
  have : numO l = none := by
    unfold numO
    split
    · rfl
    · exact h4
  unfold numV numB
  rw [this]
  exact ⟨rfl, rfl⟩

theorem num_over {l : List UInt8} (h : 17 < l.length) : numV l = 0 ∧ numB l = false := by
  have : numO l = none := by unfold numO; rw [if_pos h]
  unfold numV numB
  rw [this]
  exact ⟨rfl, rfl⟩

theorem num_end {l : List UInt8} {n sg : Int} (h : NumInv l l.length n sg) (h17 : l.length ≤ 17) : numV l = sg * n ∧ numB l = (itoa (sg * n) == l) := by
  have : numO l = some (sg * n) := by
    unfold numO
    rw [if_neg (by omega)]
    rcases h with ⟨h0, rfl, rfl⟩ | ⟨_, _, _, _, h4⟩
    · have : l = [] := List.eq_nil_of_length_eq_zero h0
      subst this
      rfl
    · rw [h4, List.drop_length]
      rfl
  unfold numV numB
  rw [this]
  exact ⟨rfl, rfl⟩

theorem ret_num {a b : Int} {x y : Bool} (h : a = b) (g : x = y) : Ending.returned (.tuple #[.int .i64 a, .bool x]) = .returned (.tuple #[.int .i64 b, .bool y]) := by rw [h, g]

set_option maxHeartbeats 1600000 in
set_option maxRecDepth 100000 in
theorem number_calls (s : ByteArray) (w : World) (hs : s.size ≤ 9223372036854775807) :
    Calls Tryz.prog 30 #[.string s] w fun e w' => e = .returned (.tuple #[.int .i64 (numV s.data.toList), .bool (numB s.data.toList)]) ∧ w' = w := by
  have hsl : s.data.toList.length = s.size := Array.length_toList
  have HSL := Lib.hid hsl
  clear hsl
  go_enter Tryz.func30, Tryz.ntmps30
  by_cases h17 : 17 < s.size
  · have ho := Lib.hid (num_over (l := s.data.toList) (by rw [HSL.out]; exact h17))
    go_wp2
    go_ret2
    exact ⟨ret_num ho.out.1.symm ho.out.2.symm, rfl⟩
  · have h17' : s.size ≤ 17 := by omega
    clear h17
    go_wp2
    go_loop [4, 5, 6] (fun a b c => ∃ (i : Nat) (n sg : Int), i ≤ s.size ∧ a = .int .i64 n ∧ b = .int .i64 sg ∧ c = .int .i64 i ∧ NumInv s.data.toList i n sg) (fun _ _ c => s.size - (intOf c).toNat)
    case atStart => exact ⟨0, 0, 1, Nat.zero_le _, rfl, rfl, rfl, .inl ⟨rfl, rfl, rfl⟩⟩
    case round =>
      obtain ⟨i, n, sg, hi, rfl, rfl, rfl, hinv⟩ := hrel
      have hnb := num_bound hinv (by omega)
      by_cases hlt : i < s.size
      · have hil : i < s.data.toList.length := by rw [HSL.out]; exact hlt
        have hget : s.data.toList[i]'hil = s[i] := rfl
        have H1 := Lib.hid (num_stop hinv hil)
        have H2 := Lib.hid (num_digit hinv hil)
        have H3 := Lib.hid (fun (e : i = 0) => num_sign (n := n) (sg := sg) (l := s.data.toList) (by subst e; exact hinv))
        rw [hget] at H1 H2
        clear hget hinv
        by_cases h0 : i = 0
        · subst h0
          by_cases h45 : s[0].toNat = 45
          · have t1 : ((s[0].toNat : Int) == 45) = true := by simp [h45]
            have H4 := Lib.hid (H3.out rfl (by rw [HSL.out]; exact hlt) (UInt8.toNat_inj.1 h45))
            clear h45
            go_wp2
            exact ⟨⟨1, n, -1, by omega, rfl, rfl, rfl, H4.out⟩, by simp [intOf]; omega⟩
          · have t1 : ((s[0].toNat : Int) == 45) = false := by simp; omega
            have hm : ¬ (0 = 0 ∧ s[0] = 45) := fun h => h45 (by rw [h.2]; rfl)
            by_cases hd : 48 ≤ s[0].toNat ∧ s[0].toNat ≤ 57
            · have H5 := Lib.hid (H2.out hm hd)
              have d1 : (48 : Int) ≤ s[0].toNat := by omega
              have d2 : (s[0].toNat : Int) ≤ 57 := by omega
              clear h45 hm hd
              go_wp2
              exact ⟨⟨1, _, sg, by omega, rfl, rfl, rfl, H5.out⟩, by simp [intOf]; omega⟩
            · have H5 := Lib.hid (H1.out hm hd)
              have d1 : (s[0].toNat : Int) < 48 ∨ 57 < (s[0].toNat : Int) := by omega
              clear h45 hm hd
              rcases d1 with d1 | d1
              · go_wp2
                go_ret2
                exact ⟨ret_num H5.out.1.symm H5.out.2.symm, rfl⟩
              · have d2 : (48 : Int) ≤ s[0].toNat := by omega
                go_wp2
                go_ret2
                exact ⟨ret_num H5.out.1.symm H5.out.2.symm, rfl⟩
        · have hm : ¬ (i = 0 ∧ s[i] = 45) := fun h => h0 h.1
          have t0 : ((i : Int) == 0) = false := by simp; omega
          by_cases hd : 48 ≤ s[i].toNat ∧ s[i].toNat ≤ 57
          · have H5 := Lib.hid (H2.out hm hd)
            have d1 : (48 : Int) ≤ s[i].toNat := by omega
            have d2 : (s[i].toNat : Int) ≤ 57 := by omega
            clear hm hd
            go_wp2
            exact ⟨⟨i + 1, _, sg, by omega, rfl, rfl, by go_num, H5.out⟩, by simp [intOf]; omega⟩
          · have H5 := Lib.hid (H1.out hm hd)
            have d1 : (s[i].toNat : Int) < 48 ∨ 57 < (s[i].toNat : Int) := by omega
            clear hm hd
            rcases d1 with d1 | d1
            · go_wp2
              go_ret2
              exact ⟨ret_num H5.out.1.symm H5.out.2.symm, rfl⟩
            · have d2 : (48 : Int) ≤ s[i].toNat := by omega
              go_wp2
              go_ret2
              exact ⟨ret_num H5.out.1.symm H5.out.2.symm, rfl⟩
      · obtain rfl : i = s.size := by omega
        have HE := Lib.hid (num_end (l := s.data.toList) (n := n) (sg := sg) (by rw [HSL.out]; exact hinv) (by rw [HSL.out]; omega))
        clear hinv hlt
        obtain ⟨hn0, hn1, hsg⟩ := hnb
        rcases hsg with rfl | rfl
        · go_wp2_with fail
          refine (digits_calls _ _ (by omega) (by omega)).mono ?_
          rintro e w' ⟨rfl, rfl⟩
          go_wp2
          go_ret2
          refine ⟨ret_num ?_ ?_, rfl⟩
          · exact HE.out.1.symm ▸ (by omega)
          · rw [HE.out.2, ByteArray.toList_eq, show 1 * n = n by omega]
        · go_wp2_with fail
          refine (digits_calls _ _ (by omega) (by omega)).mono ?_
          rintro e w' ⟨rfl, rfl⟩
          go_wp2
          go_ret2
          refine ⟨ret_num ?_ ?_, rfl⟩
          · exact HE.out.1.symm ▸ (by omega)
          · rw [HE.out.2, ByteArray.toList_eq, show -1 * n = -n by omega]

end Go.Proofs.YtifeapnhemolgaaGreatDoor.Wk
