/- texts: a copy with room to spare. -/
import Derived.Test.YtnojphaipfmiiaaPlain
import Derived.Laws.AppendOwnNone
import Derived.Deep.DeepCutAuto
import Derived.Deep.CutBlock
import Derived.Deep.CutRange
namespace Go.Proofs.Ytnojphaipfmiiaa
open Go.Proofs Go.Shelf Go.RowKit Go.Lib
set_option linter.unusedVariables false
set_option linter.unusedSimpArgs false
theorem flat_get {α : Type} {enc : α → List Value} {k : Nat} (hk : ∀ x, (enc x).length = k) : ∀ (l : List α) (j : Nat) (u : Value), (l.flatMap enc)[j]? = some u → ∃ i r x, j = i * k + r ∧ l[i]? = some x ∧ (enc x)[r]? = some u := by
  intro l
  induction l with
  | nil => intro j u h; simp at h
  | cons y l ih =>
    intro j u h
    rw [List.flatMap_cons] at h
    by_cases hj : j < k
    · rw [List.getElem?_append_left (by rw [hk]; exact hj)] at h
      exact ⟨0, j, y, by omega, rfl, h⟩
    · rw [List.getElem?_append_right (by rw [hk]; omega), hk] at h
      obtain ⟨i, r, x, h1, h2, h3⟩ := ih (j - k) u h
      exact ⟨i + 1, r, x, by rw [Nat.succ_mul]; omega, by simpa using h2, h3⟩
theorem row_news {α : Type} {enc : α → List Value} {k : Nat} (hk : ∀ x, (enc x).length = k) {w : World} {ad : Addr} {l : List α} (h : RowAt enc k w (some ad) l) : ∀ j u, (l.flatMap enc)[j]? = some u → w.cell? (ad.add j) = some u := by
  intro j u hj
  obtain ⟨i, r, x, rfl, h2, h3⟩ := flat_get hk l j u hj
  obtain ⟨b, off, he, hr⟩ := h i x h2
  cases he
  have := hr r u h3
  rw [Addr.add_lit, ← Nat.add_assoc]
  exact this
theorem strv_len (x : ByteArray) : (strv x).length = 1 := rfl
theorem strv_one (x : ByteArray) : ∀ v ∈ strv x, v.oneCell' = true := by
  intro v hv; simp [strv] at hv; subst hv; rfl
theorem flat_len {α : Type} {enc : α → List Value} {k : Nat} (hk : ∀ x, (enc x).length = k) (l : List α) : (l.flatMap enc).length = l.length * k := by
  induction l with
  | nil => simp
  | cons x l ih => rw [List.flatMap_cons, List.length_append, hk, ih, List.length_cons, Nat.succ_mul]; omega
theorem flat_one {α : Type} {enc : α → List Value} (h1 : ∀ x, ∀ v ∈ enc x, v.oneCell' = true) (l : List α) : ∀ u ∈ l.flatMap enc, u.oneCell' = true := by
  intro u hu
  obtain ⟨x, hx, h⟩ := List.mem_flatMap.1 hu
  exact h1 x u h
theorem own_none (w : World) (e : TypeId) (k : Nat) (base : Nat) (hb : base ≤ w.heap.size) : (w.alloc (.cells #[] e)).ownsRow base e k (.slice (some ⟨w.heap.size, 0, none⟩) 0 0) 0 [] :=
  ⟨by simp, Or.inr ⟨w.heap.size, 0, #[], rfl, hb, heap_alloc_last w _, Nat.le_refl _, by unfold maxLen; omega, by simp, by simp⟩⟩

theorem own_pos {w : World} {base : Nat} {e : TypeId} {k n : Nat} {v : Value} {xs : List Value} (h : w.ownsRow base e k v (n + 1) xs) : ∃ g cap, v = .slice (some ⟨g, 0, none⟩) (n + 1) cap ∧ base ≤ g ∧ n + 1 ≤ cap ∧ cap ≤ maxLen := by
  obtain ⟨_, ⟨rfl, h0⟩ | ⟨g, cap, cur, rfl, hb, hg, hn, hc, _⟩⟩ := h
  · omega
  · exact ⟨g, cap, rfl, hb, hn, hc⟩

def spare : ByteArray := ⟨#[115, 112, 97, 114, 101]⟩
set_option maxHeartbeats 8000000 in
set_option maxRecDepth 100000 in
theorem texts_any (A : Option Addr) (cA : Nat) (l : List ByteArray) (w : World) (hr : RowAt strv 1 w A l) (h0 : A = none → l = [] ∧ cA = 0) (hm : l.length < Big) :
    Calls Try.prog 4 #[.slice A l.length cA] w fun e w' => ∃ g c, e = .returned (.slice (some ⟨g, 0, none⟩) l.length c) ∧ l.length + 1 ≤ c ∧ w.heap.size ≤ g ∧ RowAt strv 1 w' (some ⟨g, 0, none⟩) (l ++ [spare]) ∧ w.grownBy w' none := by
  obtain ⟨i0, hi, hz0, hz1, hz2⟩ := info_parts info9
  have hbig := Big_eq
  have hown0 := own_none w 9 1 w.heap.size (Nat.le_refl _)
  cases A with
  | none =>
    obtain ⟨rfl, rfl⟩ := h0 rfl
    go_enter Try.func4, Try.ntmps4
    go_wp2_with (first
      | (at_builtin; refine wpList_append_own_none rfl (.tmp 4) (.tmp 5) 23 rfl w.heap.size 9 i0 1 Try.underlying23 hi (.slice (some ⟨w.heap.size, 0, none⟩) 0 0) 0 [] rfl hown0 rfl ?_)
      | (at_builtin; refine wpList_append_own _ rfl (.tmp 7) (.tmp 8) 23 rfl w.heap.size 9 i0 (.string ⟨#[]⟩) 1 16 Try.underlying23 hi hz0 hz1 hz2 rfl (by decide) _ _ _ rfl (hown0.alloc _) ⟨_, 0, none⟩ 1 1 (strv spare) rfl rfl (cell_news _ (strv spare) _ _ (by simp)) (strv_one spare) (by unfold maxLen; omega) (by omega) (by simp; omega) ?_; intro v' w4 hown' hgrow _; obtain ⟨g, cap, rfl, hgb, hcap, hcm⟩ := own_pos hown')
      | fail)
    replace hgrow : ((w.alloc (Obj.cells #[] 9)).alloc (Obj.cells #[Value.string spare] 9)).grownBy w4 (some w.heap.size) := hgrow
    have hby : w.grownBy w4 none := ((World.grownBy_alloc w _ none).trans (World.grownBy_alloc _ _ _)).andThen hgrow (fun j hj => by injection hj with hj; exact Or.inl (by omega))
    obtain ⟨A', c', hv, h1, h2, _⟩ := rowAt_of_owns (enc := strv) (k := 1) (fun _ => rfl) (l := [spare]) (by simpa using hown')
    cases hv
    go_ret
    exact ⟨g, cap, rfl, hcap, hgb, h2, hby⟩
  | some ad =>
    have HN := Lib.hid (row_news strv_len (row_by hr (World.grownBy_alloc w (.cells #[] 9) none)))
    have hfl : (l.flatMap strv).length = l.length * 1 := flat_len strv_len l
    have hfo := flat_one strv_one l
    have HF := Lib.hid (And.intro hfl hfo)
    clear hr h0 hfl hfo
    go_enter Try.func4, Try.ntmps4
    go_wp2_with (first
      | (at_builtin; refine wpList_append_own _ rfl (.tmp 4) (.tmp 5) 23 rfl w.heap.size 9 i0 (.string ⟨#[]⟩) 1 16 Try.underlying23 hi hz0 hz1 hz2 rfl (by decide) _ _ _ rfl hown0 ad l.length cA (l.flatMap strv) rfl HF.out.1 HN.out HF.out.2 (by unfold maxLen; omega) (by omega) (by simp) ?_; intro v1 w2 hown1 hgrow1 _)
      | (at_builtin; refine wpList_append_own _ rfl (.tmp 7) (.tmp 8) 23 rfl w.heap.size 9 i0 (.string ⟨#[]⟩) 1 16 Try.underlying23 hi hz0 hz1 hz2 rfl (by decide) _ _ _ rfl (hown1.alloc _) ⟨_, 0, none⟩ 1 1 (strv spare) rfl rfl (cell_news _ (strv spare) _ _ (by simp)) (strv_one spare) (by unfold maxLen; omega) (by omega) (by have := hgrow1.size; simp at this ⊢; omega) ?_; intro v' w4 hown' hgrow _; obtain ⟨g, cap, rfl, hgb, hcap, hcm⟩ := own_pos hown'; have hsl : (l.length : Int) ≤ (cap : Int) := by omega)
      | fail)
    replace hgrow1 : (w.alloc (Obj.cells #[] 9)).grownBy w2 (some w.heap.size) := hgrow1
    replace hgrow : (w2.alloc (Obj.cells #[Value.string spare] 9)).grownBy w4 v1.ownBlock := hgrow
    have hg2 : w.grownBy w2 none := (World.grownBy_alloc w _ none).andThen hgrow1 (fun j hj => by injection hj with hj; exact Or.inl (by omega))
    have hby : w.grownBy w4 none := (hg2.trans (World.grownBy_alloc _ _ _)).andThen hgrow (fun j hj => Or.inl (own_ge hown1 j hj))
    rw [Nat.zero_add, List.nil_append] at hown'
    obtain ⟨A', c', hv, h1, h2, _⟩ := rowAt_of_owns (enc := strv) (k := 1) (fun _ => rfl) (l := l ++ [spare]) (by rw [List.length_append, List.flatMap_append]; simpa using hown')
    rw [List.length_append] at hv
    have hcap' : l.length + 1 ≤ cap := by omega
    cases hv
    go_ret
    exact ⟨g, cap, rfl, hcap', hgb, h2, hby⟩
end Go.Proofs.Ytnojphaipfmiiaa
