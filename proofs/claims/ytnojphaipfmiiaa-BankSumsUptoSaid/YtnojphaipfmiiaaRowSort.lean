/- A row of the call's own, sorted. -/
import Derived.Test.YtnojphaipfmiiaaLay
import Derived.Shelf.SlSortCmp.NoneTotal
namespace Go.Proofs.Ytnojphaipfmiiaa
open Go.Proofs Go.Shelf Go.RowKit Go.Lib Go.Sort
set_option linter.unusedVariables false
set_option linter.unusedSimpArgs false

theorem rowK_of_owns {α : Type} [Inhabited α] {enc : α → List Value} {k : Nat} (hk : ∀ x, (enc x).length = k) (h1 : ∀ x, ∀ v ∈ enc x, v.oneCell' = true) {w : World} {base : Nat} {e : TypeId} {v : Value} {l : List α}
    (h : w.ownsRow base e k v l.length (l.flatMap enc)) (hl : l ≠ []) : ∃ g cap, v = .slice (some ⟨g, 0, none⟩) l.length cap ∧ base ≤ g ∧ RowK enc k w g 0 l.toArray := by
  obtain ⟨A, c, rfl, hc, hr, _⟩ := rowAt_of_owns hk h
  obtain ⟨_, ⟨hv, h0⟩ | ⟨g, cap, cur, hv, hb, hg, hn, hcm, hs, ht⟩⟩ := h
  · exact absurd (List.length_eq_zero_iff.1 h0) hl
  · cases hv
    refine ⟨g, c, rfl, hb, hk, h1, ?_, (Array.getElem?_eq_some_iff.1 hg).1⟩
    intro t ht'
    rw [size_flatK, List.size_toArray] at ht'
    have hkp : 0 < k := by
      rcases Nat.eq_zero_or_pos k with h | h
      · subst h; omega
      · exact h
    have hi : t / k < l.length := Nat.div_lt_of_lt_mul (by rw [Nat.mul_comm]; exact ht')
    have hj : t % k < k := Nat.mod_lt _ hkp
    have e1 : t / k * k + t % k = t := by rw [Nat.mul_comm]; exact Nat.div_add_mod t k
    refine ⟨?_, ?_⟩
    · obtain ⟨g', off, he, hrg⟩ := hr (t / k) (l[t / k]'hi) (by simp)
      cases he
      have := hrg (t % k) ((enc l[t / k])[t % k]'(by rw [hk]; exact hj)) (by simp)
      rw [get_flatK _ _ _ _ (by rw [List.size_toArray]; exact ht')]
      rw [getElem!_pos l.toArray (t / k) (by simpa using hi), getElem!_pos _ _ (by rw [hk]; exact hj)]
      simp only [id, List.getElem_toArray]
      rw [← this]
      congr 2
      omega
    · unfold World.frozen?
      rw [show (⟨g, 0 + t, none⟩ : Addr).block = g from rfl, hg]
      simp

theorem swk_by {α : Type} [Inhabited α] {enc : α → List Value} {k : Nat} {w w' : World} {g off : Nat} {d : Array α} (h : SWK enc k w g off d w') : w.grownBy w' (some g) := by
  obtain ⟨n, os, rfl⟩ := h
  have hs : (putRowK enc k (Sort.ahead w n) g off d).heap.size = w.heap.size := by rw [size_putRowK]; rfl
  refine ⟨rfl, rfl, rfl, ?_, fun i hi hne => ?_⟩
  · unfold sortWorldK
    rw [size_grow, hs]; omega
  · show ((putRowK enc k (Sort.ahead w n) g off d).heap ++ os)[i]? = w.heap[i]?
    rw [Array.getElem?_append_left (by rw [hs]; exact hi)]
    show (w.heap.modify g _)[i]? = w.heap[i]?
    rw [Array.getElem?_modify, if_neg (fun e => hne (by rw [e]))]

theorem swk_row {α : Type} [Inhabited α] {enc : α → List Value} {k : Nat} {w w' : World} {g : Nat} {d0 d : Array α} (h : SWK enc k w g 0 d w') (R : RowK enc k w g 0 d0) (hs : d.size = d0.size) : RowAt enc k w' (some ⟨g, 0, none⟩) d.toList := by
  have hh := h.holds R.hblk R.hH hs
  intro i x hx
  have hi : i < d.size := by have := (List.getElem?_eq_some_iff.1 hx).1; simpa using this
  refine ⟨g, 0, rfl, fun j v hv => ?_⟩
  have hx' : d[i]! = x := by
    rw [getElem!_pos d i hi]
    have := (List.getElem?_eq_some_iff.1 hx).2
    simpa using this
  have := HoldsK.cells hh R.hk hi j v (by rw [hx']; exact hv)
  rw [Addr.add_lit] at this
  exact this
theorem swk_lt {α : Type} [Inhabited α] {enc : α → List Value} {k : Nat} {w w' : World} {g off : Nat} {d : Array α} (h : SWK enc k w g off d w') : w.heap.size ≤ w'.heap.size := h.le

/-- The pairs by their keys. -/
theorem pcmp_lt (x y : Pr) : ltOf pcmp x y = decide (x.1.toList < y.1.toList) := by
  rw [← bytesLess_eq]
  by_cases h : Op.bytesLess x.1.toList y.1.toList = true
  · simp [ltOf, pcmp, h]
  · rw [Bool.not_eq_true] at h; simp [ltOf, pcmp, h]
theorem pcmp_swo : SWO (ltOf pcmp) where
  irrefl x := by rw [pcmp_lt]; exact decide_eq_false (List.lt_irrefl _)
  trans x y z h1 h2 := by rw [pcmp_lt] at *; exact decide_eq_true (List.lt_trans (of_decide_eq_true h1) (of_decide_eq_true h2))
  ntrans x y z h1 h2 := by
    rw [pcmp_lt] at *
    have h1 := of_decide_eq_false h1
    have h2 := of_decide_eq_false h2
    exact decide_eq_false (fun h => (List.le_trans (List.not_lt.1 h2) (List.not_lt.1 h1) : z.1.toList ≤ x.1.toList) h)

instance : Inhabited Pr := ⟨(ByteArray.empty, ByteArray.empty)⟩
theorem prv_len (x : Pr) : (prv x).length = 2 := rfl
set_option maxRecDepth 100000 in
theorem sortPairs_any (l : List Pr) (base : Nat) (v : Value) (w : World) (h : w.ownsRow base 60 2 v l.length (l.flatMap prv)) (hl : l.length < 4611686018427387904) :
    Calls Try.prog 35 #[v, .func (.func 36) #[] #[]] w fun e w' => e = .returned (.tuple #[]) ∧ (∀ row, v.ownBlock = row ∨ v.ownBlock = none → w.grownBy w' row) ∧ ∃ A c l', v = .slice A l.length c ∧ l.length ≤ c ∧ l'.length = l.length ∧ (∀ x, x ∈ l' ↔ x ∈ l) ∧ RowAt prv 2 w' A l' := by
  by_cases hn : l = []
  · subst hn
    obtain ⟨_, ⟨rfl, h0⟩ | ⟨g, cap, cur, rfl, hb, hg, hn, hcm, hs, ht⟩⟩ := h
    · refine (AnyF.slices_SortFunc_none Try.sortP none 0 _ w).mono ?_
      rintro e w' ⟨rfl, rfl⟩
      exact ⟨rfl, fun row _ => ⟨rfl, rfl, rfl, Nat.le_refl _, fun _ _ _ => rfl⟩, none, 0, [], rfl, Nat.le_refl _, rfl, fun _ => Iff.rfl, fun i x hx => by simp at hx⟩
    · refine (AnyF.slices_SortFunc_none Try.sortP _ cap _ w).mono ?_
      rintro e w' ⟨rfl, rfl⟩
      exact ⟨rfl, fun row _ => ⟨rfl, rfl, rfl, Nat.le_refl _, fun _ _ _ => rfl⟩, _, cap, [], rfl, Nat.zero_le _, rfl, fun _ => Iff.rfl, fun i x hx => by simp at hx⟩
  · obtain ⟨A0, c0, hv0, hc0, _⟩ := rowAt_of_owns prv_len h
    obtain ⟨g, cap, rfl, hb, R⟩ := rowK_of_owns prv_len prv_one h hn
    cases hv0
    have e36 : ∀ args w, (callFunc 36 args).run Try.prog w = .ok (.enter 36 args) w := enters_of Try.func36 (by kernel_rfl) rfl
    have hc : CmpLays Try.prog 36 #[] prv 2 pcmp g 0 l.toArray.size w := fun m os dk _ x y => by
      refine (within1_any x y _).mono ?_
      rintro e w' ⟨h, g⟩
      exact ⟨h, g.lays⟩
    refine (AnyQ.slices_SortFunc Try.sortP 2 Try.isAgg60 Try.sizeOf60 prv prv_len prv_one pcmp pcmp_swo 36 #[] g 0 c0 l.toArray w e36 hc R.hH R.hblk (by simpa using hl)).mono ?_
    rintro e w' ⟨rfl, d', n, os, hp, hs, hw⟩
    have hS : SWK prv 2 w g 0 d' w' := ⟨n, os, hw⟩
    have hsz : d'.size = l.length := by have := hp.1; simpa using this
    have hperm : d'.toList.Perm l := by
      have h0 := hp.2.2
      have e1 : d'.extract 0 l.toArray.size = d' := by rw [← hp.1]; exact Array.extract_size
      have e2 : l.toArray.extract 0 l.toArray.size = l.toArray := Array.extract_size
      rw [e1, e2] at h0
      exact h0
    refine ⟨rfl, fun row hr => ?_, _, c0, d'.toList, rfl, hc0, by simpa using hsz, fun x => hperm.mem_iff, swk_row hS R (by simpa using hsz)⟩
    rcases hr with rfl | h
    · exact swk_by hS
    · simp [Value.ownBlock] at h
end Go.Proofs.Ytnojphaipfmiiaa
