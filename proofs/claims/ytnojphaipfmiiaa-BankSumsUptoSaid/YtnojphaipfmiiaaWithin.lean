/- within, for the span that holds all. -/
import Derived.Test.YtnojphaipfmiiaaEntSort
import Derived.Deep.DeepCutAuto
import Derived.Deep.CutBlock
namespace Go.Proofs.Ytnojphaipfmiiaa
open Go.Proofs Go.Shelf Go.RowKit Go.Lib
set_option linter.unusedVariables false
set_option linter.unusedSimpArgs false
/-- The state of within's loop. -/
structure WI (w w1 wr : World) (f : ByteArray → Option Wrt) (KS : List ByteArray) (vis : ByteArray → Prop) (v : Value) (l : List Pr) : Prop where
  own : wr.ownsRow w1.heap.size 60 2 v l.length (l.flatMap prv)
  by0 : w.grownBy wr none
  lo : wr.cell? ⟨w.heap.size, 0, none⟩ = some (.string ByteArray.empty)
  hi : wr.cell? ⟨w.heap.size, 1, none⟩ = some (.string ByteArray.empty)
  le : w1.heap.size ≤ wr.heap.size
  mem : ∀ k v, (k, v) ∈ l ↔ vis k ∧ ∃ x, f k = some x ∧ x.2.2 = v
  nd : (l.map (·.1)).Nodup
  fin : ∀ p ∈ l, p.1 ∈ KS
theorem WI.len {w w1 wr : World} {f : ByteArray → Option Wrt} {KS : List ByteArray} {vis : ByteArray → Prop} {v : Value} {l : List Pr} (h : WI w w1 wr f KS vis v l) : l.length ≤ KS.length := by
  have := List.Nodup.length_le_of_subset h.nd (fun x hx => by obtain ⟨p, hp, rfl⟩ := List.mem_map.1 hx; exact h.fin p hp)
  simpa using this

theorem own_kept {w w' : World} {base : Nat} {e : TypeId} {k : Nat} {v : Value} {n r : Nat} {xs : List Value} (h : w.ownsRow base e k v n xs) (hg : w.grownBy w' (some r)) (hr : r < base) : w'.ownsRow base e k v n xs :=
  h.kept hg (by
    by_cases e : v.ownBlock = none
    · exact Or.inl e
    · refine Or.inr fun e => ?_
      have := own_ge h r e
      omega)

set_option maxHeartbeats 16000000 in
set_option maxRecDepth 100000 in
theorem within_any (b : Nat) (f : ByteArray → Option Wrt) (w : World) (hf : MapIs Value.string wrV w b f) (KS : List ByteArray) (hfin : ∀ k x, f k = some x → k ∈ KS) (hks : KS.length < Big) :
    Calls Try.prog 24 #[.map (some b), .agg #[.string ByteArray.empty, .string ByteArray.empty]] w fun e w' => ∃ A c l, e = .returned (.slice A l.length c) ∧ l.length ≤ c ∧ RowAt prv 2 w' A l ∧ w.grownBy w' none ∧
      (∀ k v, (k, v) ∈ l ↔ ∃ x, f k = some x ∧ x.2.2 = v) ∧ l.length ≤ KS.length := by
  have hbig := Big_eq
  have HF : Hid (∀ o, MapIs Value.string wrV (w.alloc o) b f) := fun o => hf.kept (World.grownBy_alloc w o none) (by simp)
  have HB := hf.lt
  obtain ⟨i0, hi, hz0, hz1, hz2⟩ := info_parts info60
  have HFIN := Go.Lib.hid hfin
  clear hf hfin
  go_enter Try.func24, Try.ntmps24
  go_wp2_with (first | (at_range; refine wpList_range rfl (.tmp 8) 72 rfl 92 Try.underlying72 b f (HF.out _) rfl ?_; intro w1 cnt0 hrg hgr hsz) | fail)
  go_frame
  have hsa : (w.alloc (Obj.cells #[Value.string ByteArray.empty, Value.string ByteArray.empty] 58)).heap.size = w.heap.size + 1 := by simp
  rw [hsa] at hrg hsz ⊢
  have HW : Hid (WI w w1 w1 f KS (fun _ => False) (.slice none 0 0) []) := by
    have hb0 : w1.heap[w.heap.size]? = some (.cells #[.string ByteArray.empty, .string ByteArray.empty] 58 (0, 0)) := (hgr.block _ (by simp) (by simp)).trans (heap_alloc_last _ _)
    refine ⟨⟨rfl, Or.inl ⟨rfl, rfl⟩⟩, (World.grownBy_alloc w _ none).trans hgr, ?_, ?_, Nat.le_refl _, by simp, by simp, by simp⟩
    · rw [cell_of_row _ _ _ _ _ _ hb0]; rfl
    · rw [cell_of_row _ _ _ _ _ _ hb0]; rfl
  clear hsa HF hgr
  go_loopw [5, 6] (fun v5 _ wr => ∃ cnt vis l, Ranging Value.string wrV wr b (w.heap.size + 1) f vis cnt ∧ Aside (WI w w1 wr f KS vis v5 l)) (fun _ _ wr => rLeft wr b (w.heap.size + 1))
  case atStart => exact ⟨cnt0, _, [], hrg, HW.out⟩
  case round =>
    obtain ⟨cnt, vis, l, hr, HH⟩ := hrel
    clear HW hrg
    go_upto_region 4 with (first
      | (at_next; refine wpList_next rfl (.tmp 9) rfl key_str b (w.heap.size + 1) f vis cnt hr rfl (fun h0 hl => ?_) (fun y u w2 cnt2 hgy hvy hr2 hlt hg2 hs2 hen => ?_); rotate_left; (obtain ⟨x1, x2, x3⟩ := u; simp only [wrV, wrv] at hen ⊢); rotate_left) | fail)
    · have W := HH.out
      refine (sortPairs_any l w1.heap.size u5 wr W.own (by have := W.len; omega)).mono ?_
      rintro e w3 ⟨rfl, hby, A, c, l', hu, hc, hl', hmem, hrow⟩
      have H3 : Hid (l.length ≤ c ∧ RowAt prv 2 w3 A l' ∧ w.grownBy w3 none ∧ (∀ k v, (k, v) ∈ l' ↔ ∃ x, f k = some x ∧ x.2.2 = v) ∧ l'.length ≤ KS.length) := by
        refine ⟨hc, hrow, W.by0.andThen (hby _ (Or.inl rfl)) (fun j hj => Or.inl (by have := own_ge W.own j hj; omega)), fun k v => ?_, by rw [hl']; exact W.len⟩
        rw [hmem, W.mem]
        constructor
        · exact fun h => h.2
        · rintro ⟨x, h1, h2⟩
          exact ⟨hl k x h1, x, h1, h2⟩
      clear hc hrow hby hmem hl
      subst hu
      go_wp2
      go_ret
      exact ⟨A, c, l', by rw [hl']; rfl, by rw [hl']; exact H3.out.1, H3.out.2⟩
    · have W := HH.out
      obtain ⟨o, ho⟩ : ∃ o, o = Obj.cells #[.string x1, .bool x2, .string x3] 92 := ⟨_, rfl⟩
      have hga : w2.grownBy (w2.alloc o) none := World.grownBy_alloc w2 o none
      have hown : (w2.alloc o).ownsRow w1.heap.size 60 2 u5 l.length (l.flatMap prv) := (own_kept W.own hg2 (by omega)).alloc o
      have hle := W.le
      have hb2 : ∀ i, i ≤ w.heap.size → (w2.alloc o).heap[i]? = wr.heap[i]? := fun i hi => (hga.block i (by omega) (by simp)).trans (hg2.block i (by omega) (fun e => by injection e with e; omega))
      have c0 : (w2.alloc o).cell? ⟨w.heap.size, 0, none⟩ = some (.string ByteArray.empty) := (World.cell?_of_block (hb2 _ (Nat.le_refl _))).trans W.lo
      have c1 : (w2.alloc o).cell? ⟨w.heap.size, 1, none⟩ = some (.string ByteArray.empty) := (World.cell?_of_block (hb2 _ (Nat.le_refl _))).trans W.hi
      have hlen : l.length ≤ KS.length := W.len
      have hby : w.grownBy (w2.alloc o) none := W.by0.andThen (hg2.andThen hga (by simp)) (fun j hj => by injection hj with hj; exact Or.inl (by omega))
      have hrl : rLeft wr b (w.heap.size + 1) = cnt := hr.left_eq
      have hr3 : Ranging Value.string wrV (w2.alloc o) b (w.heap.size + 1) f (fun x => vis x ∨ x = y) cnt2 := hr2.kept hga (by simp) (by simp)
      have hle2 : w1.heap.size ≤ (w2.alloc o).heap.size := by have := hga.size; omega
      have HX : Hid (w.grownBy (w2.alloc o) none ∧ rLeft wr b (w.heap.size + 1) = cnt ∧ cnt2 < cnt ∧ Ranging Value.string wrV (w2.alloc o) b (w.heap.size + 1) f (fun x => vis x ∨ x = y) cnt2 ∧ f y = some (x1, x2, x3) ∧ ¬ vis y) := ⟨hby, hrl, hlt, hr3, hgy, hvy⟩
      have HXC := Go.Lib.hid (And.intro c0 c1)
      clear hby hrl hlt hr3 hgy hvy hr hr2 hg2 hga hb2
      subst ho
      have t : (Op.bytesLess [] y.toList || y.toList.isEmpty) = true := by
        cases hk : y.toList with
        | nil => rfl
        | cons a l => rfl
      go_wp2_with (first | (at_builtin; refine wpList_append_own _ rfl (.tmp 30) (.tmp 35) 55 rfl w1.heap.size 60 i0 (.agg #[.string ⟨#[]⟩, .string ⟨#[]⟩]) 2 32 Try.underlying55 hi hz0 hz1 hz2 rfl (by decide) _ _ _ rfl (hown.alloc _) ⟨_, 0, none⟩ 1 1 (prv (y, x3)) rfl rfl (cell_news _ (prv (y, x3)) _ _ (by simp [hs2])) (prv_one _) (by unfold maxLen; omega) (by omega) (by simp; omega) ?_; intro v' w4 hown' hgrow _) | fail)
      replace hgrow : ((w2.alloc (Obj.cells #[Value.string x1, Value.bool x2, Value.string x3] 92)).alloc (Obj.cells #[Value.string y, Value.string x3] 60)).grownBy w4 u5.ownBlock := hgrow
      have hg4 := (World.grownBy_alloc (w2.alloc (Obj.cells #[Value.string x1, Value.bool x2, Value.string x3] 92)) (Obj.cells #[Value.string y, Value.string x3] 60) u5.ownBlock).trans hgrow
      have hnb : ∀ i, i < w1.heap.size → some i ≠ u5.ownBlock := fun i hi e => by have := own_ge hown i e.symm; omega
      obtain ⟨g1, g2, g3, g4, g5, g6⟩ := HX.out
      have hr4 := g4.kept hg4 (hnb _ (by omega)) (hnb _ (by omega))
      refine ⟨⟨cnt2, _, l ++ [(y, x3)], hr4, ⟨?_, g1.andThen hg4 (fun j hj => Or.inl (by have := own_ge hown j hj; omega)), ?_, ?_, ?_, ?_, ?_, ?_⟩⟩, ?_⟩
      · rw [List.length_append, List.flatMap_append]; simpa using hown'
      · exact (World.cell?_of_block (hg4.block _ (Nat.lt_of_lt_of_le (show w.heap.size < w1.heap.size by omega) hle2) (hnb w.heap.size (by omega)))).trans HXC.out.1
      · exact (World.cell?_of_block (hg4.block _ (Nat.lt_of_lt_of_le (show w.heap.size < w1.heap.size by omega) hle2) (hnb w.heap.size (by omega)))).trans HXC.out.2
      · have := hg4.size; omega
      · intro k v
        rw [List.mem_append, List.mem_singleton, HH.out.mem]
        constructor
        · rintro (⟨h1, h2⟩ | h)
          · exact ⟨Or.inl h1, h2⟩
          · cases h; exact ⟨Or.inr rfl, _, g5, rfl⟩
        · rintro ⟨h1 | rfl, x, h2, h3⟩
          · exact Or.inl ⟨h1, x, h2, h3⟩
          · rw [g5] at h2; cases h2; exact Or.inr (by rw [← h3])
      · rw [List.map_append, List.nodup_append]
        refine ⟨HH.out.nd, by simp, fun a ha c hc => ?_⟩
        obtain ⟨p, hp, rfl⟩ := List.mem_map.1 ha
        simp at hc
        subst hc
        intro e
        have := (HH.out.mem p.1 p.2).1 hp
        rw [e] at this
        exact g6 this.1
      · intro p hp
        rw [List.mem_append, List.mem_singleton] at hp
        rcases hp with h | rfl
        · exact HH.out.fin p h
        · exact HFIN.out _ _ g5
      · rw [hr4.left_eq, g2]; exact g3
end Go.Proofs.Ytnojphaipfmiiaa
