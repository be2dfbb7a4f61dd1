/- SortStableFunc of the entries by time and transaction, in the program itself. -/
import Derived.Test.YtnojphaipfmiiaaRefs
import Derived.Test.YtnojphaipfmiiaaStableC
import Derived.Test.YtnojphaipfmiiaaLaid
namespace Go.Proofs.Ytnojphaipfmiiaa
open Go.Proofs Go.Shelf Go.RowKit Go.Lib Go.Sort
set_option linter.unusedVariables false
set_option linter.unusedSimpArgs false

theorem sortL : SortL Try.prog 7 where
  mixed := mixed
  t0 := Try.underlying0
  a0 := Try.isAgg0
  z0 := Try.sizeOf0
  v0 := Try.zeroValue0
  t3 := Try.underlying3
  a3 := Try.isAgg3
  z3 := Try.sizeOf3
  v3 := Try.zeroValue3
  t4 := Try.underlying4
  a4 := Try.isAgg4
  z4 := Try.sizeOf4
  v4 := Try.zeroValue4
  t28 := Try.underlying28
  a28 := Try.isAgg28
  z28 := Try.sizeOf28
  v28 := Try.zeroValue28
  t89 := Try.underlying89
  a89 := Try.isAgg89
  z89 := Try.sizeOf89
  v89 := Try.zeroValue89
  t101 := Try.underlying101
  aE := Try.isAgg52
  zE := Try.sizeOf52

def elt (x y : Ent) : Prop := x.w < y.w ∨ (x.w = y.w ∧ (x.l < y.l ∨ (x.l = y.l ∧ (x.n < y.n ∨ (x.n = y.n ∧ x.c * 4294967296 + x.s < y.c * 4294967296 + y.s)))))
theorem elt_iff (x y : Ent) : ltOf ecmp x y = true ↔ elt x y := by
  simp only [ltOf, decide_eq_true_eq, ecmp, scmp, sless, tcmp, elt, bne_iff_ne, ne_eq, decide_eq_true_eq]
  repeat' split
  all_goals (try simp_all)
  all_goals omega
theorem elt_not (x y : Ent) : ltOf ecmp x y = false ↔ ¬ elt x y := by
  rw [← elt_iff, Bool.not_eq_true]
theorem ecmp_swo : SWO (ltOf ecmp) where
  irrefl x := by rw [elt_not]; unfold elt; omega
  trans x y z h1 h2 := by rw [elt_iff] at *; unfold elt at *; omega
  ntrans x y z h1 h2 := by rw [elt_not] at *; unfold elt at *; omega

set_option maxHeartbeats 4000000 in
theorem sortEnts_any (d0 : Array Ent) (blk off cap : Nat) (w : World) (R : RowK Ent.v 7 w blk off d0) (hsz : d0.size < 1152921504606846976) :
    Calls Try.prog 28 #[.slice (some ⟨blk, off, none⟩) d0.size cap, .func (.func 29) #[] #[]] w fun e w' =>
      e = .returned (.tuple #[]) ∧ ∃ d' : Array Ent, d'.size = d0.size ∧ PermIn 0 d0.size d0 d' ∧ SortedIn (ltOf ecmp) 0 d0.size d' ∧ SWK Ent.v 7 w blk off d' w' := by
  have hc : CmpLays Try.prog 29 #[] Ent.v 7 ecmp blk off d0.size w := fun m os dk _ x y => by
    refine (read1_any x y _).mono ?_
    rintro e w' ⟨h, g⟩
    exact ⟨h, g.lays⟩
  have e29 : ∀ args w, (callFunc 29 args).run Try.prog w = .ok (.enter 29 args) w := enters_of Try.func29 (by kernel_rfl) rfl
  have ST := Go.Lib.hid (stable_any sortL Try.func66 Try.func60 Try.func49 Try.func48 Try.func40 Try.sortE_ren rfl rfl Try.sortE Ent.v ecmp ecmp_swo 29 #[] blk off cap d0 w e29 hc R hsz)
  clear hc R
  go_enter Try.func28, Try.ntmps28
  go_wp2_with fail
  refine (ST.out).mono ?_
  rintro e w' ⟨rfl, H⟩
  have HH := Go.Lib.hid H
  clear H ST
  go_wp2
  go_end0
  exact ⟨rfl, HH.out⟩
end Go.Proofs.Ytnojphaipfmiiaa
