/- sameAnswer: an answer and itself. -/
import Derived.Test.YtnojphaipfmiiaaAlikeB
import Derived.Deep.DeepCutAuto
import Derived.Deep.CutBlock
import Derived.Deep.CutRange
import Derived.Deep.QuietTactic
import Derived.BigQuiet
namespace Go.Proofs.Ytnojphaipfmiiaa
open Go.Proofs Go.Shelf Go.RowKit Go.Lib
set_option linter.unusedVariables false
set_option linter.unusedSimpArgs false
theorem eq65 (d : Nat) (w : World) (k : Int) (b1 b2 b3 : Bool) (s1 s2 s3 s4 : ByteArray) (l : Int) :
    (Op.equalIn (d + 2) 65 (.agg #[.int .i64 k, .bool b1, .bool b2, .bool b3, .string s1, .string s2, .string s3, .string s4, .int .i64 l]) (.agg #[.int .i64 k, .bool b1, .bool b2, .bool b3, .string s1, .string s2, .string s3, .string s4, .int .i64 l])).run Try.prog w = .ok true w := by
  refine se_of Try.underlying65 (by kernel_rfl) ?_
  have h : ∀ s, (Op.eqFields (d + 1) #[.int .i64 k, .bool b1, .bool b2, .bool b3, .string s1, .string s2, .string s3, .string s4, .int .i64 l] #[.int .i64 k, .bool b1, .bool b2, .bool b3, .string s1, .string s2, .string s3, .string s4, .int .i64 l] s).run Try.prog w = .ok true w → True := fun _ _ => trivial
  refine se_cons (s := true) (r := true) (by rfl) (by go_simp; rfl) (by go_simp; rfl) (by go_simp) ?_
  refine se_cons (s := true) (r := true) (by rfl) (by go_simp; rfl) (by go_simp; rfl) (by go_simp) ?_
  refine se_cons (s := true) (r := true) (by rfl) (by go_simp; rfl) (by go_simp; rfl) (by go_simp) ?_
  refine se_cons (s := true) (r := true) (by rfl) (by go_simp; rfl) (by go_simp; rfl) (by go_simp) ?_
  refine se_cons (s := true) (r := true) (by rfl) (by go_simp; rfl) (by go_simp; rfl) (by go_simp) ?_
  refine se_cons (s := true) (r := true) (by rfl) (by go_simp; rfl) (by go_simp; rfl) (by go_simp) ?_
  refine se_cons (s := true) (r := true) (by rfl) (by go_simp; rfl) (by go_simp; rfl) (by go_simp) ?_
  refine se_cons (s := true) (r := true) (by rfl) (by go_simp; rfl) (by go_simp; rfl) (by go_simp) ?_
  exact se_last (by rfl) (by go_simp; rfl) (by go_simp; rfl) (by go_simp)
attribute [local go_sem high] eq34 eq49 eq65
set_option maxHeartbeats 16000000 in
set_option maxRecDepth 100000 in
theorem sameAnswer_any (a : Ans) (P : Option Addr) (n : Nat) (ps : List Pr) (w : World) (hp : a.ps = .slice P ps.length n) (hm : ps.length < Big) (hr : RowAt prv 2 w P ps) :
    Calls Try.prog 19 #[.agg a.l.toArray, .agg a.l.toArray] w fun e w' => e = .returned (.bool true) ∧ Gr w w' := by
  obtain ⟨c, t1, t2, k, b1, b2, b3, tok, key, hi, val, lim, st, wl, lg, nd, psv, tk⟩ := a
  simp only at hp
  subst hp
  have HS : Hid (∀ w1, Gr w w1 → Calls Try.prog 27 #[.slice P ps.length n, .slice P ps.length n] w1 fun e w' => e = .returned (.bool true) ∧ Gr w1 w') := fun w1 g => Same_any P n ps w1 hm (hr.below g.below)
  clear hr
  simp only [Ans.l]
  go_enter Try.func19, Try.ntmps19
  go_wp2_with fail
  refine (HS.out _ (((Gr.refl w).alloc _).alloc _)).mono ?_
  rintro u w1 ⟨rfl, g1⟩
  have G1 := Lib.hid ((((Gr.refl w).alloc _).alloc _).trans g1)
  clear g1
  go_wp2
  go_ret
  exact ⟨rfl, G1.out⟩
end Go.Proofs.Ytnojphaipfmiiaa
