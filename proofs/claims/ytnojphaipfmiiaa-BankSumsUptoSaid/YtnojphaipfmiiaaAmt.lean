/- The contracts of both functions that read an amount's text. No condition. -/
import Derived.Test.YtnojphaipfmiiaaPairs
import Derived.Lib.ConvBytes
namespace Go.Proofs.Ytnojphaipfmiiaa
open Go.RowKit Go.Sort
set_option linter.unusedVariables false
set_option linter.unusedSimpArgs false
attribute [local go_sem high] eq34 eq49
/-- Digits from here on, behind the number so far. -/
def amtGo : List UInt8 → Int → Int × Bool
  | [], n => (n, true)
  | d :: l, n => if d.toNat < 48 ∨ 57 < d.toNat then (0, false) else amtGo l (10 * n + (d.toNat - 48))
/-- An amount's text. -/
def amt (s : ByteArray) : Int × Bool :=
  if s.size = 0 ∨ 15 < s.size ∨ (1 < s.size ∧ s.data.toList[0]? = some 48) then (0, false) else amtGo s.data.toList 0
theorem byte_at (s : ByteArray) (i : Nat) (h : i < s.size) : s.data.toList[i]? = some s[i] := by
  have : i < s.data.size := h
  simp only [Array.getElem?_toList]
  rw [Array.getElem?_eq_getElem this]
  rfl
theorem empty_toList (s : ByteArray) : s.toList.isEmpty = decide (s.size = 0) := by
  rw [ByteArray.toList_eq]
  by_cases h : s.size = 0
  · have : s.data.toList = [] := List.length_eq_zero_iff.1 (by simpa using h)
    simp [this, h]
  · rw [decide_eq_false h]
    cases h2 : s.data.toList with
    | nil => exact absurd (by have := congrArg List.length h2; simpa using this) h
    | cons a l => rfl

theorem Amount_any (s : ByteArray) (w : World) :
    Calls Try.prog 26 #[.string s] w fun q w' => q = .returned (.tuple #[.int .i64 (amt s).1, .bool (amt s).2]) ∧ w = w' := by
  by_cases h0 : s.size = 0
  · have ha : amt s = (0, false) := by rw [amt, if_pos (Or.inl h0)]
    have he : s.toList.isEmpty = true := by rw [empty_toList]; simpa using h0
    rw [ha]
    clear h0 ha
    go_enter Try.func26, Try.ntmps26
    go_wp2
    go_ret2
    exact ⟨rfl, rfl⟩
  · have he : s.toList.isEmpty = false := by rw [empty_toList]; simpa using h0
    by_cases h1 : 15 < s.size
    · have ha : amt s = (0, false) := by rw [amt, if_pos (Or.inr (Or.inl h1))]
      have h1' : (15 : Int) < (s.size : Int) := by omega
      rw [ha]
      clear ha h0 h1
      go_enter Try.func26, Try.ntmps26
      go_wp2
      go_ret2
      exact ⟨rfl, rfl⟩
    · have hlen : s.size ≤ 15 := by omega
      have hlz : ¬ (15 : Int) < (s.size : Int) := by omega
      have h00 : 0 < s.size := by omega
      by_cases h2 : 1 < s.size ∧ s[0].toNat = 48
      · have ha : amt s = (0, false) := by
          have h48 : s.data.toList[0]? = some 48 := (byte_at s 0 h00).trans (congrArg some (UInt8.toNat_inj.1 (by rw [h2.2]; rfl)))
          rw [amt, if_pos (Or.inr (Or.inr ⟨h2.1, h48⟩))]
        have h2a : (1 : Int) < (s.size : Int) := by omega
        have h2b : ((s[0].toNat : Int) == 48) = true := by have := h2.2; simp [this]
        rw [ha]
        clear ha h0 h1 h2
        go_enter Try.func26, Try.ntmps26
        go_wp2
        go_ret2
        exact ⟨rfl, rfl⟩
      · have ha : Hid (amt s = amtGo (s.data.toList.drop 0) 0) := by
          show _ = _
          rw [amt, if_neg, List.drop_zero]
          rintro (h | h | ⟨h, h'⟩)
          · exact h0 h
          · exact h1 h
          · rw [byte_at s 0 h00] at h'
            refine h2 ⟨h, ?_⟩
            have := Option.some.inj h'
            rw [this]; rfl
        have hg : ¬ (1 : Int) < (s.size : Int) ∨ ((1 : Int) < (s.size : Int) ∧ ((s[0].toNat : Int) == 48) = false) := by
          by_cases hh : 1 < s.size
          · have : s[0].toNat ≠ 48 := fun e => h2 ⟨hh, e⟩
            exact Or.inr ⟨by omega, by rw [beq_eq_false_iff_ne]; omega⟩
          · exact Or.inl (by omega)
        clear h2 h0 h1
        rcases hg with hg | ⟨hg, hg2⟩
        all_goals
          go_enter Try.func26, Try.ntmps26
          go_wp2
          go_loop [4, 5] (fun n i => ∃ (k : Nat) (m : Int), k ≤ s.size ∧ i = .int .i64 k ∧ n = .int .i64 m ∧ Hid (amt s = amtGo (s.data.toList.drop k) m ∧ 0 ≤ m ∧ m < ((10 ^ k : Nat) : Int))) (fun _ i => s.size - (intOf i).toNat)
          case atStart => exact ⟨0, 0, Nat.zero_le _, rfl, rfl, ha.out, Int.le_refl _, by decide⟩
          case round =>
            obtain ⟨k, m, hk, rfl, rfl, HH⟩ := hrel
            have hm0 : 0 ≤ m := HH.out.2.1
            by_cases hlt : k < s.size
            · have hm1 : m ≤ 99999999999999 := by
                have h1 := HH.out.2.2
                have h2 : 10 ^ k ≤ 10 ^ 14 := Nat.pow_le_pow_right (by omega) (by omega)
                have h3 : 10 ^ 14 = 100000000000000 := by decide
                omega
              have hd : s.data.toList.drop k = s[k] :: s.data.toList.drop (k + 1) := by
                have h := byte_at s k hlt
                obtain ⟨h1, h2⟩ := List.getElem?_eq_some_iff.1 h
                rw [List.drop_eq_getElem_cons h1, h2]
              have hgo : amt s = if s[k].toNat < 48 ∨ 57 < s[k].toNat then (0, false) else amtGo (s.data.toList.drop (k + 1)) (10 * m + (s[k].toNat - 48)) := by
                rw [HH.out.1, hd, amtGo]
              have HGO := Lib.hid hgo
              clear hgo hd ha
              have hb : s[k].toNat ≤ 255 := by have := s[k].toNat_lt; omega
              by_cases h48 : (s[k].toNat : Int) < 48
              · have hr : amt s = (0, false) := by rw [HGO.out, if_pos (Or.inl (by omega))]
                have HRR := Lib.hid hr
                clear hr
                go_wp2
                go_ret2
                exact ⟨by rw [HRR.out]; rfl, rfl⟩
              · by_cases h57 : (57 : Int) < (s[k].toNat : Int)
                · have hr : amt s = (0, false) := by rw [HGO.out, if_pos (Or.inr (by omega))]
                  have HRR := Lib.hid hr
                  clear hr
                  go_wp2
                  go_ret2
                  exact ⟨by rw [HRR.out]; rfl, rfl⟩
                · have hr := HGO.out
                  rw [if_neg (by omega)] at hr
                  have HRR : Hid (amt s = amtGo (s.data.toList.drop (k + 1)) (10 * m + (s[k].toNat - 48)) ∧ 0 ≤ 10 * m + (s[k].toNat - 48 : Int) ∧ 10 * m + (s[k].toNat - 48 : Int) < ((10 ^ (k + 1) : Nat) : Int)) := by
                    refine ⟨hr, by omega, ?_⟩
                    have h1 := HH.out.2.2
                    rw [Nat.pow_succ]
                    omega
                  clear hr
                  have h48' : (48 : Int) ≤ (s[k].toNat : Int) := by omega
                  have h57' : (s[k].toNat : Int) ≤ 57 := by omega
                  clear HH h48
                  go_wp2
                  go_round
                  case rel => exact ⟨k + 1, _, hlt, by go_num, rfl, HRR⟩
                  case measure => simp [intOf]; omega
            · have hr : amt s = (m, true) := by
                rw [HH.out.1, List.drop_eq_nil_of_le (by simp; omega), amtGo]
              have HRR := Lib.hid hr
              clear hr
              go_wp2
              go_ret2
              exact ⟨by rw [HRR.out]; rfl, rfl⟩

theorem bytes_gr (w : World) (e : TypeId) (s : ByteArray) : Gr w (Lib.bytesWorld w e s) :=
  Gr.of_below ⟨rfl, rfl, rfl, by rw [Lib.bytesWorld_size]; omega, fun i hi => Lib.bytesWorld_at_old w e s i hi⟩ (Nat.le_succ w.drawn)
theorem amount_any (s : ByteArray) (w : World) :
    Calls Try.prog 16 #[.string s] w fun q w' => q = .returned (.tuple #[.int .i64 (amt s).1, .bool (amt s).2]) ∧ Gr w w' := by
  have kc := fun w => Lib.run_convert_string_bytes (P := Try.prog) w 9 79 5 s Try.underlying9 Try.underlying79 Try.underlying5
  by_cases h0 : s.size = 0
  · have ha : amt s = (0, false) := by rw [amt, if_pos (Or.inl h0)]
    have he : ((s.size : Int) == 0) = true := by rw [h0]; rfl
    rw [ha]
    clear h0 ha
    go_enter Try.func16, Try.ntmps16
    go_wp2
    go_ret2
    exact ⟨rfl, Gr.refl _⟩
  · have he : ((s.size : Int) == 0) = false := by rw [beq_eq_false_iff_ne]; omega
    by_cases h1 : 15 < s.size
    · have ha : amt s = (0, false) := by rw [amt, if_pos (Or.inr (Or.inl h1))]
      have h1' : (15 : Int) < (s.size : Int) := by omega
      rw [ha]
      clear ha h0 h1
      go_enter Try.func16, Try.ntmps16
      go_wp2
      go_ret2
      exact ⟨rfl, Gr.refl _⟩
    · have hlen : s.size ≤ 15 := by omega
      have hlz : ¬ (15 : Int) < (s.size : Int) := by omega
      have h00 : 0 < s.size := by omega
      by_cases h2 : 1 < s.size ∧ s[0].toNat = 48
      · have ha : amt s = (0, false) := by
          have h48 : s.data.toList[0]? = some 48 := (byte_at s 0 h00).trans (congrArg some (UInt8.toNat_inj.1 (by rw [h2.2]; rfl)))
          rw [amt, if_pos (Or.inr (Or.inr ⟨h2.1, h48⟩))]
        have h2a : (1 : Int) < (s.size : Int) := by omega
        have h2b : ((s[0].toNat : Int) == 48) = true := by have := h2.2; simp [this]
        rw [ha]
        clear ha h0 h1 h2
        go_enter Try.func16, Try.ntmps16
        go_wp2
        go_ret2
        exact ⟨rfl, Gr.refl _⟩
      · have ha : Hid (amt s = amtGo (s.data.toList.drop 0) 0) := by
          show _ = _
          rw [amt, if_neg, List.drop_zero]
          rintro (h | h | ⟨h, h'⟩)
          · exact h0 h
          · exact h1 h
          · rw [byte_at s 0 h00] at h'
            refine h2 ⟨h, ?_⟩
            have := Option.some.inj h'
            rw [this]; rfl
        have hg : ¬ (1 : Int) < (s.size : Int) ∨ ((1 : Int) < (s.size : Int) ∧ ((s[0].toNat : Int) == 48) = false) := by
          by_cases hh : 1 < s.size
          · have : s[0].toNat ≠ 48 := fun e => h2 ⟨hh, e⟩
            exact Or.inr ⟨by omega, by rw [beq_eq_false_iff_ne]; omega⟩
          · exact Or.inl (by omega)
        clear h2 h0 h1
        have HC : Hid (∀ k (h : k < s.size), (Lib.bytesWorld w 5 s).cell? ⟨w.heap.size, k, none⟩ = some (.int .u8 (s[k].toNat : Int))) := fun k h => by
          rw [Lib.bytesWorld_cell w 5 s k h]
          have := byte_at s k h
          simp only [Array.getElem?_toList] at this
          simp [this]
        have HG := Lib.hid (bytes_gr w 5 s)
        rcases hg with hg | ⟨hg, hg2⟩
        all_goals
          go_enter Try.func16, Try.ntmps16
          go_wp2
          obtain ⟨W, hW⟩ : ∃ W, Lib.bytesWorld w 5 s = W := ⟨_, rfl⟩
          rw [hW] at HC HG ⊢
          clear hW kc
          go_loop [4, 6, 28] (fun n d i => ∃ (k : Nat) (m : Int), k ≤ s.size ∧ i = .int .i64 k ∧ n = .int .i64 m ∧ Hid (amt s = amtGo (s.data.toList.drop k) m ∧ 0 ≤ m ∧ m < ((10 ^ k : Nat) : Int))) (fun _ _ i => s.size - (intOf i).toNat)
          case atStart => exact ⟨0, 0, Nat.zero_le _, rfl, rfl, ha.out, Int.le_refl _, by decide⟩
          case round =>
            obtain ⟨k, m, hk, rfl, rfl, HH⟩ := hrel
            have hm0 : 0 ≤ m := HH.out.2.1
            by_cases hlt : k < s.size
            · have hm1 : m ≤ 99999999999999 := by
                have h1 := HH.out.2.2
                have h2 : 10 ^ k ≤ 10 ^ 14 := Nat.pow_le_pow_right (by omega) (by omega)
                have h3 : 10 ^ 14 = 100000000000000 := by decide
                omega
              have hd : s.data.toList.drop k = s[k] :: s.data.toList.drop (k + 1) := by
                have h := byte_at s k hlt
                obtain ⟨h1, h2⟩ := List.getElem?_eq_some_iff.1 h
                rw [List.drop_eq_getElem_cons h1, h2]
              have hgo : amt s = if s[k].toNat < 48 ∨ 57 < s[k].toNat then (0, false) else amtGo (s.data.toList.drop (k + 1)) (10 * m + (s[k].toNat - 48)) := by
                rw [HH.out.1, hd, amtGo]
              have HGO := Lib.hid hgo
              have hcell := HC.out k hlt
              clear hgo hd ha
              have hb : s[k].toNat ≤ 255 := by have := s[k].toNat_lt; omega
              by_cases h48 : (s[k].toNat : Int) < 48
              · have hr : amt s = (0, false) := by rw [HGO.out, if_pos (Or.inl (by omega))]
                have HRR := Lib.hid hr
                clear hr
                go_wp2
                go_ret2
                exact ⟨by rw [HRR.out]; rfl, HG.out⟩
              · by_cases h57 : (57 : Int) < (s[k].toNat : Int)
                · have hr : amt s = (0, false) := by rw [HGO.out, if_pos (Or.inr (by omega))]
                  have HRR := Lib.hid hr
                  clear hr
                  go_wp2
                  go_ret2
                  exact ⟨by rw [HRR.out]; rfl, HG.out⟩
                · have hr := HGO.out
                  rw [if_neg (by omega)] at hr
                  have HRR : Hid (amt s = amtGo (s.data.toList.drop (k + 1)) (10 * m + (s[k].toNat - 48)) ∧ 0 ≤ 10 * m + (s[k].toNat - 48 : Int) ∧ 10 * m + (s[k].toNat - 48 : Int) < ((10 ^ (k + 1) : Nat) : Int)) := by
                    refine ⟨hr, by omega, ?_⟩
                    have h1 := HH.out.2.2
                    rw [Nat.pow_succ]
                    omega
                  clear hr
                  have h48' : (48 : Int) ≤ (s[k].toNat : Int) := by omega
                  have h57' : (s[k].toNat : Int) ≤ 57 := by omega
                  clear HH h48
                  go_wp2
                  go_round
                  case rel => exact ⟨k + 1, _, hlt, by go_num, rfl, HRR⟩
                  case measure => simp [intOf]; omega
            · have hr : amt s = (m, true) := by
                rw [HH.out.1, List.drop_eq_nil_of_le (by simp; omega), amtGo]
              have HRR := Lib.hid hr
              clear hr
              go_wp2
              go_ret2
              exact ⟨by rw [HRR.out]; rfl, HG.out⟩
end Go.Proofs.Ytnojphaipfmiiaa
