/- The entries, sorted where they lie. -/
import Derived.Test.YtnojphaipfmiiaaRowSort
import Derived.Deep.DeepCutAuto
import Derived.Deep.CutBlock
namespace Go.Proofs.Ytnojphaipfmiiaa
open Go.Proofs Go.Shelf Go.RowKit Go.Lib Go.Sort
set_option linter.unusedVariables false
set_option linter.unusedSimpArgs false
set_option maxHeartbeats 8000000 in
set_option maxRecDepth 100000 in
theorem sortEnts_none (p : Option Addr) (cap : Nat) (fv : Value) (w : World) : Calls Try.prog 28 #[.slice p 0 cap, fv] w fun e w' => e = .returned (.tuple #[]) ∧ w' = w := by
  go_enter Try.func28, Try.ntmps28
  go_wp2
  go_loopg [7, 8] 0 (fun _ s7 s8 wr => s7 = .int .i64 0 ∧ s8 = .int .i64 20 ∧ wr = w)
  case atStart => exact ⟨rfl, rfl, rfl⟩
  case round =>
    obtain ⟨rfl, rfl, rfl⟩ := hrel
    go_wp2_with fail
    refine (AnyF.insertionSortCmpFunc_none Try.sortE p cap fv _).mono ?_
    rintro u1 w1 ⟨rfl, rfl⟩
    go_wp2
    go_loopg [6, 7, 8, 9] 0 (fun _ s6 s7 s8 s9 wr => s6 = .int .i64 20 ∧ wr = w1)
    case atStart => exact ⟨rfl, rfl⟩
    case round =>
      obtain ⟨rfl, rfl⟩ := hrel
      go_wp2
      go_end0
      go_wp2
      go_end0
      exact ⟨rfl, rfl⟩

theorem ev_len (x : Ent) : x.v.length = 7 := rfl
theorem ev_one (x : Ent) : ∀ v ∈ x.v, v.oneCell' = true := by
  intro v hv
  simp [Ent.v] at hv
  rcases hv with rfl | rfl | rfl | rfl | rfl | rfl | rfl <;> rfl
/-- read's list of commits, sorted. -/
theorem sortEnts_row (l : List Ent) (base : Nat) (v : Value) (w : World) (h : w.ownsRow base 52 7 v l.length (l.flatMap Ent.v)) (hl : l.length < 1152921504606846976) :
    Calls Try.prog 28 #[v, .func (.func 29) #[] #[]] w fun e w' => e = .returned (.tuple #[]) ∧ (∀ row, v.ownBlock = row ∨ v.ownBlock = none → w.grownBy w' row) ∧
      ∃ A c l', v = .slice A l.length c ∧ l.length ≤ c ∧ l'.length = l.length ∧ (∀ x, x ∈ l' ↔ x ∈ l) ∧ l'.Pairwise (fun x y => ¬ elt y x) ∧ RowAt Ent.v 7 w' A l' := by
  by_cases hn : l = []
  · subst hn
    obtain ⟨_, ⟨rfl, h0⟩ | ⟨g, cap, cur, rfl, hb, hg, hn, hcm, hs, ht⟩⟩ := h
    · refine (sortEnts_none none 0 _ w).mono ?_
      rintro e w' ⟨rfl, rfl⟩
      exact ⟨rfl, fun row _ => ⟨rfl, rfl, rfl, Nat.le_refl _, fun _ _ _ => rfl⟩, none, 0, [], rfl, Nat.le_refl _, rfl, fun _ => Iff.rfl, List.Pairwise.nil, fun i x hx => by simp at hx⟩
    · refine (sortEnts_none _ cap _ w).mono ?_
      rintro e w' ⟨rfl, rfl⟩
      exact ⟨rfl, fun row _ => ⟨rfl, rfl, rfl, Nat.le_refl _, fun _ _ _ => rfl⟩, _, cap, [], rfl, Nat.zero_le _, rfl, fun _ => Iff.rfl, List.Pairwise.nil, fun i x hx => by simp at hx⟩
  · obtain ⟨A0, c0, hv0, hc0, _⟩ := rowAt_of_owns ev_len h
    obtain ⟨g, cap, rfl, hb, R⟩ := rowK_of_owns ev_len ev_one h hn
    cases hv0
    refine (sortEnts_any l.toArray g 0 c0 w R (by simpa using hl)).mono ?_
    rintro e w' ⟨rfl, d', hsz, hp, hs, hS⟩
    have hsz : d'.size = l.length := by simpa using hsz
    have hperm : d'.toList.Perm l := by
      have h0 := hp.2.2
      have e1 : d'.extract 0 l.toArray.size = d' := by rw [← hp.1]; exact Array.extract_size
      have e2 : l.toArray.extract 0 l.toArray.size = l.toArray := Array.extract_size
      rw [e1, e2] at h0
      exact h0
    refine ⟨rfl, fun row hr => ?_, _, c0, d'.toList, rfl, hc0, by simpa using hsz, fun x => hperm.mem_iff, ?_, swk_row hS R (by simpa using hsz)⟩
    · rcases hr with rfl | h
      · exact swk_by hS
      · simp [Value.ownBlock] at h
    · rw [List.pairwise_iff_getElem]
      intro i j hi hj hij
      have hi' : i < d'.size := by simpa using hi
      have hj' : j < d'.size := by simpa using hj
      have := hs i j (Nat.zero_le _) hij (by simpa [hsz] using hj')
      rw [elt_not, getElem!_pos d' i hi', getElem!_pos d' j hj'] at this
      simpa using this
end Go.Proofs.Ytnojphaipfmiiaa
