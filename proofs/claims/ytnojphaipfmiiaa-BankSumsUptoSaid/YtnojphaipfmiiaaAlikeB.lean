/- Same: a row of pairs and itself. -/
import Derived.Test.YtnojphaipfmiiaaAlike
import Derived.Deep.DeepCutAuto
import Derived.Deep.CutBlock
import Derived.Deep.CutRange
import Derived.Deep.QuietTactic
import Derived.BigQuiet
namespace Go.Proofs.Ytnojphaipfmiiaa
open Go.Proofs Go.Shelf Go.RowKit Go.Lib
set_option linter.unusedVariables false
set_option linter.unusedSimpArgs false
set_option maxHeartbeats 8000000 in
set_option maxRecDepth 100000 in
theorem Same_any (A : Option Addr) (c : Nat) (ps : List Pr) (w : World) (hm : ps.length < Big) (ha : RowAt prv 2 w A ps) :
    Calls Try.prog 27 #[.slice A ps.length c, .slice A ps.length c] w fun e w' => e = .returned (.bool true) ∧ Gr w w' := by
  have hbig := Big_eq
  have hmix := mixed
  have HA := Lib.hid ha
  clear ha
  go_enter Try.func27, Try.ntmps27
  go_wp2
  go_loopw [5] (fun s5 wr => ∃ i : Nat, s5 = .int .i64 i ∧ i ≤ ps.length ∧ Hid (Gr w wr)) (fun s5 _ => ps.length - (intOf s5).toNat)
  case atStart => exact ⟨0, rfl, Nat.zero_le _, Gr.refl _⟩
  case round =>
    obtain ⟨i, rfl, hil, HG⟩ := hrel
    have hi64 : i < 1099511627777 := by omega
    by_cases hlt : i < ps.length
    · have hlti : (i : Int) < (ps.length : Int) := by omega
      obtain ⟨x, hx⟩ : ∃ x, ps[i]? = some x := ⟨ps[i]'hlt, by simp⟩
      obtain ⟨g, off, hA, hr⟩ := (HA.out.below HG.out.below) i x hx
      subst hA
      have c0 : wr.cell? ⟨g, off + i * 2, none⟩ = some (.string x.1) := hr 0 _ rfl
      have c1 : wr.cell? ⟨g, off + i * 2 + 1, none⟩ = some (.string x.2) := hr 1 _ rfl
      clear hx hr
      go_wp2
      go_quiet (fail)
      clear c0 c1
      go_wp2
      go_roundw
      case rel => exact ⟨i + 1, by go_num, hlt, HG.out.drewN _⟩
      case measure => simp [intOf]; omega
    · go_wp2
      go_ret
      exact ⟨rfl, HG.out⟩
end Go.Proofs.Ytnojphaipfmiiaa
