/- Comparisons of rows that hold the same. -/
import Derived.Test.YtnojphaipfmiiaaTwin
import Derived.Deep.DeepCutAuto
import Derived.Deep.CutBlock
import Derived.Deep.CutRange
import Derived.Deep.QuietTactic
import Derived.BigQuiet
namespace Go.Proofs.Ytnojphaipfmiiaa
open Go.Proofs Go.Shelf Go.RowKit Go.Lib
set_option linter.unusedVariables false
set_option linter.unusedSimpArgs false
set_option maxHeartbeats 8000000 in
set_option maxRecDepth 100000 in
theorem sameInts_any (A B : Option Addr) (c d : Nat) (xs : List Int) (w : World) (hm : xs.length < Big) (ha : RowAt intv 1 w A xs) (hb : RowAt intv 1 w B xs) :
    Calls Try.prog 10 #[.slice A xs.length c, .slice B xs.length d] w fun e w' => e = .returned (.bool true) ∧ Gr w w' := by
  have hbig := Big_eq
  have hmix := mixed
  have HA := Lib.hid ha
  have HB := Lib.hid hb
  clear ha hb
  go_enter Try.func10, Try.ntmps10
  go_wp2
  go_loopw [13, 5] (fun s13 _ wr => ∃ i : Nat, s13 = .int .i64 i ∧ i ≤ xs.length ∧ Hid (Gr w wr)) (fun s13 _ _ => xs.length - (intOf s13).toNat)
  case atStart => exact ⟨0, rfl, Nat.zero_le _, Gr.refl _⟩
  case round =>
    obtain ⟨i, rfl, hil, HG⟩ := hrel
    have hi64 : i < 1099511627777 := by omega
    by_cases hlt : i < xs.length
    · have hlti : (i : Int) < (xs.length : Int) := by omega
      obtain ⟨x, hx⟩ : ∃ x, xs[i]? = some x := ⟨xs[i]'hlt, by simp⟩
      obtain ⟨g, off, hA, hr⟩ := (HA.out.below HG.out.below) i x hx
      obtain ⟨g', off', hB, hr'⟩ := (HB.out.below HG.out.below) i x hx
      subst hA
      subst hB
      have c0 : wr.cell? ⟨g, off + i, none⟩ = some (.int .i64 x) := by
        have h1 : wr.cell? ⟨g, off + i * 1 + 0, none⟩ = some (.int .i64 x) := hr 0 _ rfl
        rw [Nat.mul_one, Nat.add_zero] at h1; exact h1
      have c1 : wr.cell? ⟨g', off' + i, none⟩ = some (.int .i64 x) := by
        have h1 : wr.cell? ⟨g', off' + i * 1 + 0, none⟩ = some (.int .i64 x) := hr' 0 _ rfl
        rw [Nat.mul_one, Nat.add_zero] at h1; exact h1
      clear hx hr hr'
      go_wp2
      go_quiet (fail)
      clear c0 c1
      go_wp2
      go_roundw
      case rel => exact ⟨i + 1, by go_num, hlt, HG.out.drewN _⟩
      case measure => simp [intOf]; omega
    · go_wp2
      go_ret
      exact ⟨rfl, HG.out⟩
end Go.Proofs.Ytnojphaipfmiiaa
