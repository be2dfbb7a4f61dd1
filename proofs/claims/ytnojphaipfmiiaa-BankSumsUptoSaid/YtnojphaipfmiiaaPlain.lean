/- The plain law: commits played in order end at what the newest writes say. -/
import Derived.Test.YtnojphaipfmiiaaPam
namespace Go.Proofs.Ytnojphaipfmiiaa
open Go.Proofs Go.Shelf Go.RowKit Go.Lib
set_option linter.unusedVariables false
set_option linter.unusedSimpArgs false

theorem hist_last (es : List Evt) (c s : Int) (k : ByteArray) : ∀ n, n ≤ es.length → (lastI es c s k n < 0 ∧ histF (es.take n) (c, s) k = none) ∨
    ∃ (j : Nat) (x : Evt), lastI es c s k n = (j : Int) ∧ es[j]? = some x ∧ isW x.a = true ∧ x.a.key = k ∧ histF (es.take n) (c, s) k = some (wof x.a) := by
  intro n
  induction n with
  | zero => intro _; exact Or.inl ⟨by simp [lastI], by simp [histF]⟩
  | succ n ih =>
    intro hn
    obtain ⟨x, hx⟩ : ∃ x, es[n]? = some x := ⟨es[n]'(by omega), by simp⟩
    have htk : histF (es.take (n + 1)) = stepH (histF (es.take n)) x.a := by rw [List.take_add_one, hx]; exact histF_snoc _ _
    have hl : lastI es c s k (n + 1) = if wrB x.a c s && x.a.key.toList == k.toList then (n : Int) else lastI es c s k n := by rw [lastI, hx]
    by_cases hc : isW x.a = true ∧ (c, s) = (x.a.t1, x.a.t2) ∧ k = x.a.key
    · obtain ⟨h1, h2, h3⟩ := hc
      have e1 : c = x.a.t1 := congrArg Prod.fst h2
      have e2 : s = x.a.t2 := congrArg Prod.snd h2
      refine Or.inr ⟨n, x, ?_, hx, h1, h3.symm, ?_⟩
      · rw [hl, e1, e2, wrB_self, h1, beq_toList, h3]; simp
      · rw [htk, stepH, if_pos h1]; simp [h2, h3, upd]
    · have hcond : (wrB x.a c s && x.a.key.toList == k.toList) = false := by
        rw [← Bool.not_eq_true]
        intro h
        rw [Bool.and_eq_true, beq_toList] at h
        have hk : x.a.key = k := of_decide_eq_true h.2
        have hw := h.1
        simp only [wrB, Bool.and_eq_true, decide_eq_true_eq] at hw
        refine hc ⟨?_, ?_, hk.symm⟩
        · simp only [isW, Bool.and_eq_true, decide_eq_true_eq]
          exact ⟨hw.1.2, hw.2⟩
        · rw [hw.1.1.1, hw.1.1.2]
      have hst : histF (es.take (n + 1)) (c, s) k = histF (es.take n) (c, s) k := by
        rw [htk, stepH]
        by_cases h1 : isW x.a = true
        · rw [if_pos h1]
          by_cases h2 : (c, s) = (x.a.t1, x.a.t2)
          · have h3 : k ≠ x.a.key := fun h => hc ⟨h1, h2, h⟩
            rw [h2]; simp [upd, h3]
          · simp only [if_neg h2]
        · rw [if_neg h1]
      rw [hst, hl, hcond]
      exact ih (by omega)

/-- The entry may be seen at the stamp, and its transaction writes the key. -/
def Cand (es : List Evt) (k : ByteArray) (a b c : Int) (e : Ent) : Prop := e.o = 1 ∧ onF a b c e = true ∧ 0 ≤ lastI es e.c e.s k es.length
theorem lat_iff (x y : Ent) : lat x y = true ↔ elt y x := by
  have hx := x.ok
  have hy := y.ok
  simp only [lat, sless, elt, bne_iff_ne, ne_eq]
  repeat' split
  all_goals (simp only [decide_eq_true_eq])
  all_goals omega
theorem newF_spec (es : List Evt) (cs : List Ent) (k : ByteArray) (a b c : Int) : ∀ n, n ≤ cs.length →
    ((newF es (cs.take n) k a b c).1 < 0 ∧ ∀ e ∈ cs.take n, ¬ Cand es k a b c e) ∨
    ∃ e ∈ cs.take n, newF es (cs.take n) k a b c = (lastI es e.c e.s k es.length, e) ∧ Cand es k a b c e ∧ ∀ e' ∈ cs.take n, Cand es k a b c e' → ¬ elt e e' := by
  intro n
  induction n with
  | zero => intro _; exact Or.inl ⟨by simp [newF], by simp⟩
  | succ n ih =>
    intro hn
    obtain ⟨x, hx⟩ : ∃ x, cs[n]? = some x := ⟨cs[n]'(by omega), by simp⟩
    have htk : cs.take (n + 1) = cs.take n ++ [x] := by rw [List.take_add_one, hx]; rfl
    rw [htk, newF_snoc]
    have hon : onF a b c x = !sless a b c x.w x.l x.n := rfl
    by_cases hc : Cand es k a b c x
    · obtain ⟨h1, h2, h3⟩ := hc
      have h2' : sless a b c x.w x.l x.n = false := by rw [hon] at h2; simpa using h2
      have hs : ∀ s, newStep es k a b c s x = if s.1 < 0 ∨ lat x s.2 = true then (lastI es x.c x.s k es.length, x) else s := fun s => by
        simp only [newStep, h1, h2', ne_eq, not_true_eq_false, if_false, Bool.false_eq_true, if_neg (show ¬ lastI es x.c x.s k es.length < 0 by omega)]
      rw [hs]
      rcases ih (by omega) with ⟨g1, g2⟩ | ⟨e, he, g1, g2, g3⟩
      · rw [if_pos (Or.inl g1)]
        refine Or.inr ⟨x, by simp, rfl, ⟨h1, h2, h3⟩, fun e' he' hc' => ?_⟩
        rw [List.mem_append, List.mem_singleton] at he'
        rcases he' with h | rfl
        · exact absurd hc' (g2 e' h)
        · unfold elt; omega
      · rw [g1]
        have hn0 : ¬ lastI es e.c e.s k es.length < 0 := by have := g2.2.2; omega
        by_cases hl : lat x e = true
        · rw [if_pos (Or.inr hl)]
          have hex := (lat_iff x e).1 hl
          refine Or.inr ⟨x, by simp, rfl, ⟨h1, h2, h3⟩, fun e' he' hc' => ?_⟩
          rw [List.mem_append, List.mem_singleton] at he'
          rcases he' with h | rfl
          · have := g3 e' h hc'
            unfold elt at *; omega
          · unfold elt; omega
        · have hnot : ¬ ((lastI es e.c e.s k es.length, e).1 < 0 ∨ lat x (lastI es e.c e.s k es.length, e).2 = true) := fun h => h.elim hn0 hl
          rw [if_neg hnot]
          have hex : ¬ elt e x := fun h => hl ((lat_iff x e).2 h)
          refine Or.inr ⟨e, by simp [he], rfl, g2, fun e' he' hc' => ?_⟩
          rw [List.mem_append, List.mem_singleton] at he'
          rcases he' with h | rfl
          · exact g3 e' h hc'
          · exact hex
    · have hs : ∀ s, newStep es k a b c s x = s := fun s => by
        unfold newStep
        by_cases h1 : x.o = 1
        · by_cases h2 : sless a b c x.w x.l x.n = true
          · simp [h1, h2]
          · by_cases h3 : lastI es x.c x.s k es.length < 0
            · simp [h1, h2, h3]
            · exact absurd ⟨h1, by rw [hon]; simpa using h2, by omega⟩ hc
        · simp [h1]
      rw [hs]
      rcases ih (by omega) with ⟨g1, g2⟩ | ⟨e, he, g1, g2, g3⟩
      · refine Or.inl ⟨g1, fun e' he' => ?_⟩
        rw [List.mem_append, List.mem_singleton] at he'
        rcases he' with h | rfl
        · exact g2 e' h
        · exact hc
      · refine Or.inr ⟨e, by simp [he], g1, g2, fun e' he' hc' => ?_⟩
        rw [List.mem_append, List.mem_singleton] at he'
        rcases he' with h | rfl
        · exact g3 e' h hc'
        · exact absurd hc' hc

theorem foldF_spec (G : Hist) (k : ByteArray) : ∀ (l : List Ent), ((∀ e ∈ l, G (e.c, e.s) k = none) ∧ foldF G l k = none) ∨
    ∃ l1 e l2 x, l = l1 ++ e :: l2 ∧ G (e.c, e.s) k = some x ∧ (∀ e' ∈ l2, G (e'.c, e'.s) k = none) ∧ foldF G l k = if x.2.1 = true then none else some x := by
  have gen : ∀ n (l : List Ent), l.length = n → ((∀ e ∈ l, G (e.c, e.s) k = none) ∧ foldF G l k = none) ∨
    ∃ l1 e l2 x, l = l1 ++ e :: l2 ∧ G (e.c, e.s) k = some x ∧ (∀ e' ∈ l2, G (e'.c, e'.s) k = none) ∧ foldF G l k = if x.2.1 = true then none else some x := by
    intro n
    induction n with
    | zero => intro l hl; obtain rfl := List.length_eq_zero_iff.1 hl; exact Or.inl ⟨by simp, by simp [foldF]⟩
    | succ n ih =>
      intro l hl
      have hne : l ≠ [] := fun h => by rw [h] at hl; simp at hl
      obtain ⟨l', e, rfl⟩ : ∃ l' e, l = l' ++ [e] := ⟨l.dropLast, l.getLast hne, (List.dropLast_concat_getLast hne).symm⟩
      rw [foldF_snoc]
      cases hg : G (e.c, e.s) k with
      | some x => exact Or.inr ⟨l', e, [], x, rfl, hg, by simp, over_some hg⟩
      | none =>
        rw [over_none hg]
        rcases ih l' (by simpa using hl) with ⟨g1, g2⟩ | ⟨l1, e1, l2, x, rfl, g2, g3, g4⟩
        · refine Or.inl ⟨fun e' he' => ?_, g2⟩
          rw [List.mem_append, List.mem_singleton] at he'
          rcases he' with h | rfl
          · exact g1 e' h
          · exact hg
        · refine Or.inr ⟨l1, e1, l2 ++ [e], x, by simp, g2, fun e' he' => ?_, g4⟩
          rw [List.mem_append, List.mem_singleton] at he'
          rcases he' with h | rfl
          · exact g3 e' h
          · exact hg
  exact fun l => gen l.length l rfl

theorem tw_mem {a b c : Int} {x : Ent} : ∀ {l : List Ent}, l.Pairwise (fun x y => ¬ elt y x) → (x ∈ l.takeWhile (onF a b c) ↔ x ∈ l ∧ onF a b c x = true)
  | [], _ => by simp
  | y :: l, h => by
    obtain ⟨h1, h2⟩ := List.pairwise_cons.1 h
    have ih := tw_mem (a := a) (b := b) (c := c) (x := x) h2
    cases hy : onF a b c y with
    | true =>
      rw [List.takeWhile_cons, hy, if_pos rfl, List.mem_cons, List.mem_cons, ih]
      constructor
      · rintro (rfl | ⟨g1, g2⟩)
        · exact ⟨Or.inl rfl, hy⟩
        · exact ⟨Or.inr g1, g2⟩
      · rintro ⟨rfl | g1, g2⟩
        · exact Or.inl rfl
        · exact Or.inr ⟨g1, g2⟩
    | false =>
      rw [List.takeWhile_cons, hy]
      simp only [Bool.false_eq_true, if_false, List.not_mem_nil, false_iff]
      rintro ⟨g1, g2⟩
      rcases List.mem_cons.1 g1 with rfl | g1
      · rw [hy] at g2; cases g2
      · have := h1 x g1
        simp only [onF, sless, Bool.not_eq_true', Bool.not_eq_false'] at hy g2
        unfold elt at this
        repeat' split at hy
        all_goals repeat' split at g2
        all_goals simp only [decide_eq_true_eq, decide_eq_false_iff_not] at hy g2
        all_goals omega

theorem keys_mem (es : List Evt) (k : ByteArray) : (∃ x ∈ es, isW x.a = true ∧ x.a.key = k) → k ∈ keysL es := by
  have ins : ∀ (l : List ByteArray) (a : ByteArray), ∀ k, k ∈ insK a l ↔ k = a ∨ k ∈ l := by
    intro l a k
    induction l with
    | nil => simp [insK]
    | cons y l ih =>
      unfold insK
      split
      · simp
      · rw [List.mem_cons, ih, List.mem_cons]
        constructor
        · rintro (h | h | h) <;> simp [h]
        · rintro (h | h | h) <;> simp [h]
  have put : ∀ (l : List ByteArray) (a : ByteArray), a ∈ putL l a ∧ ∀ k, k ∈ l → k ∈ putL l a := by
    intro l a
    unfold putL
    split
    · rename_i h
      obtain ⟨y, hy, he⟩ := List.any_eq_true.1 h
      rw [beq_toList] at he
      have := of_decide_eq_true he
      exact ⟨this ▸ hy, fun k hk => hk⟩
    · exact ⟨(ins l a a).2 (Or.inl rfl), fun k hk => (ins l a k).2 (Or.inr hk)⟩
  have gen : ∀ (es : List Evt) (l : List ByteArray), (k ∈ l ∨ ∃ x ∈ es, isW x.a = true ∧ x.a.key = k) → k ∈ es.foldl keyStep l := by
    intro es
    induction es with
    | nil => intro l h; rcases h with h | ⟨x, hx, _⟩; exact h; simp at hx
    | cons y es ih =>
      intro l h
      refine ih _ ?_
      unfold keyStep
      rcases h with h | ⟨x, hx, h1, h2⟩
      · by_cases hw : isW y.a = true
        · rw [if_pos hw]; exact Or.inl ((put l y.a.key).2 k h)
        · rw [if_neg hw]; exact Or.inl h
      · rcases List.mem_cons.1 hx with rfl | hx
        · rw [if_pos h1, ← h2]; exact Or.inl (put l x.a.key).1
        · exact Or.inr ⟨x, hx, h1, h2⟩
  intro h
  exact gen es [] (Or.inr h)

theorem onF_of (es : List Evt) (cs : List Ent) (a b c : Int) (l : List Ent) (hm : ∀ x, x ∈ l ↔ x ∈ cs ∧ x.o = 1) (hs : l.Pairwise (fun x y => ¬ elt y x)) (k v : ByteArray) :
    (∃ x, foldF (histF es) (l.takeWhile (onF a b c)) k = some x ∧ x.2.2 = v) ↔ (k, v) ∈ pairAt es cs a b c k := by
  have hist : ∀ c s, (lastI es c s k es.length < 0 ∧ histF es (c, s) k = none) ∨ ∃ (j : Nat) (x : Evt), lastI es c s k es.length = (j : Int) ∧ es[j]? = some x ∧ isW x.a = true ∧ x.a.key = k ∧ histF es (c, s) k = some (wof x.a) := fun c s => by
    have := hist_last es c s k es.length (Nat.le_refl _)
    rwa [List.take_length] at this
  have cand : ∀ e x, e ∈ l.takeWhile (onF a b c) → histF es (e.c, e.s) k = some x → e ∈ cs ∧ Cand es k a b c e := fun e x he hx => by
    obtain ⟨h1, h2⟩ := (tw_mem hs).1 he
    obtain ⟨h3, h4⟩ := (hm e).1 h1
    refine ⟨h3, h4, h2, ?_⟩
    rcases hist e.c e.s with ⟨_, g⟩ | ⟨j, y, g, _⟩
    · rw [hx] at g; cases g
    · rw [g]; omega
  have hN := newF_spec es cs k a b c cs.length (Nat.le_refl _)
  rw [List.take_length] at hN
  rcases hN with ⟨g1, g2⟩ | ⟨e0, he0, g1, g2, g3⟩
  · have hp : pairAt es cs a b c k = [] := by simp only [pairAt, if_pos g1]
    rw [hp]
    refine ⟨fun ⟨x, hx, _⟩ => ?_, fun h => by cases h⟩
    rcases foldF_spec (histF es) k (l.takeWhile (onF a b c)) with ⟨_, h⟩ | ⟨l1, e1, l2, x1, h1, h2, _, _⟩
    · rw [h] at hx; cases hx
    · obtain ⟨h3, h4⟩ := cand e1 x1 (by rw [h1]; simp) h2
      exact absurd h4 (g2 e1 h3)
  · have h0 : ∃ (j : Nat) (x : Evt), lastI es e0.c e0.s k es.length = (j : Int) ∧ es[j]? = some x ∧ isW x.a = true ∧ x.a.key = k ∧ histF es (e0.c, e0.s) k = some (wof x.a) := by
      rcases hist e0.c e0.s with ⟨h, _⟩ | h
      · have := g2.2.2; omega
      · exact h
    obtain ⟨j, x, hj, hx, hw, hk, hh⟩ := h0
    have hL0 : e0 ∈ l.takeWhile (onF a b c) := (tw_mem hs).2 ⟨(hm e0).2 ⟨he0, g2.1⟩, g2.2.1⟩
    have hp : pairAt es cs a b c k = if x.a.k = 4 then [(x.a.key, x.a.val)] else [] := by
      simp only [pairAt, g1, hj, if_neg (show ¬ (j : Int) < 0 by omega), Int.toNat_natCast, hx]
    have hf : foldF (histF es) (l.takeWhile (onF a b c)) k = if (wof x.a).2.1 = true then none else some (wof x.a) := by
      rcases foldF_spec (histF es) k (l.takeWhile (onF a b c)) with ⟨h, _⟩ | ⟨l1, e1, l2, x1, h1, h2, h3, h4⟩
      · rw [h e0 hL0] at hh; cases hh
      · have hc1 := cand e1 x1 (by rw [h1]; simp) h2
        have hno := g3 e1 hc1.1 hc1.2
        have hsame : e1.c = e0.c ∧ e1.s = e0.s := by
          have hin : e0 ∈ l1 ++ e1 :: l2 := by rw [← h1]; exact hL0
          rw [List.mem_append, List.mem_cons] at hin
          rcases hin with h | rfl | h
          · have hpw : (l1 ++ e1 :: l2).Pairwise (fun x y => ¬ elt y x) := by rw [← h1]; exact hs.sublist (List.takeWhile_sublist _)
            have hno2 := (List.pairwise_append.1 hpw).2.2 e0 h e1 (by simp)
            have o1 := e1.ok
            have o0 := e0.ok
            unfold elt at hno hno2
            omega
          · exact ⟨rfl, rfl⟩
          · rw [h3 e0 h] at hh; cases hh
        rw [hsame.1, hsame.2, hh] at h2
        cases h2
        exact h4
    rw [hf, hp]
    simp only [isW, Bool.and_eq_true, Bool.or_eq_true, decide_eq_true_eq] at hw
    rcases hw.2 with h4 | h5
    · have hv : wof x.a = (x.a.key, false, x.a.val) := by simp [wof, h4]
      rw [hv, if_pos h4, hk]
      simp only [Bool.false_eq_true, if_false, List.mem_singleton, Prod.mk.injEq, true_and, Option.some.injEq]
      constructor
      · rintro ⟨y, rfl, rfl⟩; rfl
      · rintro rfl; exact ⟨_, rfl, rfl⟩
    · have hv : wof x.a = (x.a.key, true, ByteArray.empty) := by simp [wof, h5]
      have h4 : ¬ x.a.k = 4 := by omega
      rw [hv, if_neg h4]
      simp

theorem pairAt_key (es : List Evt) (cs : List Ent) (a b c : Int) (k : ByteArray) : ∀ p ∈ pairAt es cs a b c k, p.1 = k ∧ k ∈ keysL es := by
  intro p hp
  have hN := newF_spec es cs k a b c cs.length (Nat.le_refl _)
  rw [List.take_length] at hN
  rcases hN with ⟨g1, g2⟩ | ⟨e0, he0, g1, g2, g3⟩
  · simp only [pairAt, if_pos g1] at hp; cases hp
  · have hist := hist_last es e0.c e0.s k es.length (Nat.le_refl _)
    rcases hist with ⟨h, _⟩ | ⟨j, x, hj, hx, hw, hk, _⟩
    · have := g2.2.2; omega
    · simp only [pairAt, g1, hj, if_neg (show ¬ (j : Int) < 0 by omega), Int.toNat_natCast, hx] at hp
      split at hp
      · rw [List.mem_singleton] at hp
        rw [hp]
        exact ⟨hk, keys_mem es k ⟨x, List.mem_of_getElem? hx, hw, hk⟩⟩
      · cases hp
theorem pairsF_mem (es : List Evt) (cs : List Ent) (a b c : Int) (k v : ByteArray) : (k, v) ∈ pairsF es cs a b c (keysL es) ↔ (k, v) ∈ pairAt es cs a b c k := by
  unfold pairsF
  rw [List.mem_flatMap]
  constructor
  · rintro ⟨k', _, h⟩
    have := (pairAt_key es cs a b c k' _ h).1
    simp only at this
    subst this
    exact h
  · intro h
    exact ⟨k, (pairAt_key es cs a b c k _ h).2, h⟩
theorem plain_law (es : List Evt) (cs : List Ent) (a b c : Int) (l : List Ent) (hm : ∀ x, x ∈ l ↔ x ∈ cs ∧ x.o = 1) (hs : l.Pairwise (fun x y => ¬ elt y x)) (k v : ByteArray) :
    (∃ x, foldF (histF es) (l.takeWhile (onF a b c)) k = some x ∧ x.2.2 = v) ↔ (k, v) ∈ pairsF es cs a b c (keysL es) := (onF_of es cs a b c l hm hs k v).trans (pairsF_mem es cs a b c k v).symm
theorem pairsF_one (es : List Evt) (cs : List Ent) (a b c : Int) (k v v' : ByteArray) (h : (k, v) ∈ pairsF es cs a b c (keysL es)) (h' : (k, v') ∈ pairsF es cs a b c (keysL es)) : v = v' := by
  rw [pairsF_mem] at h h'
  unfold pairAt at h h'
  simp only at h h'
  split at h
  · cases h
  · rename_i hp
    rw [if_neg hp] at h'
    split at h
    · rename_i x hx
      rw [hx] at h'
      simp only at h'
      split at h
      · rename_i hk
        rw [if_pos hk] at h'
        rw [List.mem_singleton] at h h'
        rw [Prod.mk.injEq] at h h'
        rw [h.2, h'.2]
      · cases h
    · cases h

/-- bank.amounts and the reference's amounts are one. -/
theorem amounts12 (r : Rs) (es : List Evt) (cs : List Ent) (A : Option Addr) (cA : Nat) (accs : List ByteArray) (a b c : Int) (w : World) (hn : r.evn = es.length) (hn2 : r.cmn = cs.length) (hr : RowAt Evt.l 20 w r.evA es) (hr2 : RowAt Ent.v 7 w r.cmA cs)
    (hone : ∀ x ∈ es, x.a.ps.oneCell' = true) (hm : es.length < Big) (hm2 : cs.length < Big) (hra : RowAt strv 1 w A accs) : AmountsAt 12 r A cA accs a b c (amtsR (pairsF es cs a b c (keysL es)) accs) w := fun w1 g =>
  pamounts_any r es cs A cA accs a b c _ w1 hn hn2 (hr.below g.below) (hr2.below g.below) hone hm hm2 (hra.below g.below) (pairsF_one es cs a b c) (plain_law es cs a b c)
theorem amounts13 (r : Rs) (es : List Evt) (cs : List Ent) (A : Option Addr) (cA : Nat) (accs : List ByteArray) (a b c : Int) (w : World) (hn : r.evn = es.length) (hn2 : r.cmn = cs.length) (hr : RowAt Evt.l 20 w r.evA es) (hr2 : RowAt Ent.v 7 w r.cmA cs)
    (hone : ∀ x ∈ es, x.a.ps.oneCell' = true) (hm : es.length < Big) (hm2 : cs.length < Big) (hra : RowAt strv 1 w A accs) : AmountsAt 13 r A cA accs a b c (amtsR (pairsF es cs a b c (keysL es)) accs) w := fun w1 g =>
  ramounts_any r es cs A cA accs a b c w1 hn hn2 (hr.below g.below) (hr2.below g.below) hone hm hm2 (hra.below g.below)
end Go.Proofs.Ytnojphaipfmiiaa
