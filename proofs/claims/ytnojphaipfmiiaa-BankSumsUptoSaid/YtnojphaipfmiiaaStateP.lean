/- audit.State, for the span that holds all. -/
import Derived.Test.YtnojphaipfmiiaaRead
import Derived.Deep.DeepCutAuto
import Derived.Deep.CutBlock
import Derived.Deep.CutRange
import Derived.StillTailTactics
import Derived.Deep.RegionLaw
namespace Go.Proofs.Ytnojphaipfmiiaa
open Go.Proofs Go.Shelf Go.RowKit Go.Lib
set_option linter.unusedVariables false
set_option linter.unusedSimpArgs false
theorem by_heap {w w' : World} (e : w'.heap = w.heap) (ho : w'.os = w.os) (ht : w'.tape = w.tape) (hu : w'.output = w.output) : w.grownBy w' none := ⟨ho, ht, hu, by rw [e]; exact Nat.le_refl _, fun k _ _ => by rw [e]⟩
/-- The keys that events write. -/
def keysE (es : List Evt) : List ByteArray := es.map (·.a.key)
theorem histF_keys (es : List Evt) : ∀ t k x, histF es t k = some x → k ∈ keysE es := by
  have gen : ∀ (es : List Evt) (G : Hist) (KS : List ByteArray), (∀ t k x, G t k = some x → k ∈ KS) → ∀ t k x, (es.foldl (fun G x => stepH G x.a) G) t k = some x → k ∈ KS ++ keysE es := by
    intro es
    induction es with
    | nil => intro G KS h t k x hx; simpa [keysE] using h t k x hx
    | cons y es ih =>
      intro G KS h t k x hx
      have := ih (stepH G y.a) (KS ++ [y.a.key]) (fun t k x hx => by
        unfold stepH at hx
        by_cases hw : isW y.a = true
        · rw [if_pos hw] at hx
          by_cases ht : t = (y.a.t1, y.a.t2)
          · simp only [if_pos ht, upd] at hx
            by_cases hk : k = y.a.key
            · simp [hk]
            · rw [if_neg hk] at hx; simp [h _ _ _ hx]
          · simp only [if_neg ht] at hx; simp [h _ _ _ hx]
        · rw [if_neg hw] at hx; simp [h _ _ _ hx]) t k x hx
      simpa [keysE] using this
  intro t k x hx
  have := gen es (fun _ _ => none) [] (fun _ _ _ h => by cases h) t k x hx
  simpa using this
theorem foldF_keys (G : Hist) (KS : List ByteArray) (h : ∀ t k x, G t k = some x → k ∈ KS) (l : List Ent) : ∀ k x, foldF G l k = some x → k ∈ KS := by
  have gen : ∀ (l : List Ent) (m : ByteArray → Option Wrt), (∀ k x, m k = some x → k ∈ KS) → ∀ k x, (l.foldl (fun m e => over m (G (e.c, e.s))) m) k = some x → k ∈ KS := by
    intro l
    induction l with
    | nil => intro m hm; exact hm
    | cons e l ih =>
      intro m hm
      refine ih _ (fun k x hx => ?_)
      cases hg : G (e.c, e.s) k with
      | none =>
        have hx' : over m (G (e.c, e.s)) k = some x := hx
        rw [over_none hg] at hx'; exact hm k x hx'
      | some y => exact h _ k y hg
  exact gen l _ (fun _ _ h => by cases h)

set_option maxHeartbeats 16000000 in
set_option maxRecDepth 100000 in
theorem State_any (r : Rs) (es : List Evt) (cs : List Ent) (a b c : Int) (w : World) (hn : r.evn = es.length) (hn2 : r.cmn = cs.length) (hr : RowAt Evt.l 20 w r.evA es) (hr2 : RowAt Ent.v 7 w r.cmA cs)
    (hone : ∀ x ∈ es, x.a.ps.oneCell' = true) (hm : es.length < Big) (hm2 : cs.length < Big) :
    Calls Try.prog 15 #[.agg r.v, .agg #[.string ByteArray.empty, .string ByteArray.empty], .agg #[.int .u64 a, .int .u32 b, .int .u32 c]] w fun e w' => ∃ (A : Option Addr) (n : Nat) (ps : List Pr) (l : List Ent), e = .returned (.slice A ps.length n) ∧ ps.length ≤ n ∧ RowAt prv 2 w' A ps ∧ w.grownBy w' none ∧
      (∀ k v, (k, v) ∈ ps ↔ ∃ x, foldF (histF es) (l.takeWhile (onF a b c)) k = some x ∧ x.2.2 = v) ∧ ps.length ≤ es.length ∧ (∀ x, x ∈ l ↔ x ∈ cs ∧ x.o = 1) ∧ l.Pairwise (fun x y => ¬ elt y x) := by
  have hbig := Big_eq
  have hmix := mixed
  have HR := Go.Lib.hid hr
  have HR2 := Go.Lib.hid hr2
  have HO := Go.Lib.hid hone
  have HN := Go.Lib.hid (And.intro hn hn2)
  have HM := Go.Lib.hid (And.intro hm hm2)
  clear hr hr2 hone hn hn2 hm hm2
  go_enter Try.func15, Try.ntmps15
  go_upto_region 1 with (fail)
  obtain ⟨w1, hw1⟩ : ∃ w1, ((w.alloc (.cells r.v 31)).alloc (.cells #[.string ByteArray.empty, .string ByteArray.empty] 58)).alloc (.cells #[.int .u64 a, .int .u32 b, .int .u32 c] 34) = w1 := ⟨_, rfl⟩
  have hb0 : w1.heap[w.heap.size]? = some (.cells r.v 31 (0, 0)) := by rw [← hw1]; exact (blk_alloc (blk_alloc (heap_alloc_last _ _) _) _)
  have hs0 : w1.cell? ⟨w.heap.size + 1, 0, none⟩ = some (.string ByteArray.empty) ∧ w1.cell? ⟨w.heap.size + 1, 1, none⟩ = some (.string ByteArray.empty) := by
    have hx : w1.heap[w.heap.size + 1]? = some (.cells #[.string ByteArray.empty, .string ByteArray.empty] 58 (0, 0)) := by
      rw [← hw1]; have := blk_alloc (heap_alloc_last (w.alloc (.cells r.v 31)) (.cells #[.string ByteArray.empty, .string ByteArray.empty] 58)) (.cells #[.int .u64 a, .int .u32 b, .int .u32 c] 34)
      simpa using this
    exact ⟨by rw [cell_of_row _ _ _ _ _ _ hx]; rfl, by rw [cell_of_row _ _ _ _ _ _ hx]; rfl⟩
  have hq0 : w1.cell? ⟨w.heap.size + 1 + 1, 0, none⟩ = some (.int .u64 a) ∧ w1.cell? ⟨w.heap.size + 1 + 1, 1, none⟩ = some (.int .u32 b) ∧ w1.cell? ⟨w.heap.size + 1 + 1, 2, none⟩ = some (.int .u32 c) := by
    have hx : w1.heap[w.heap.size + 1 + 1]? = some (.cells #[.int .u64 a, .int .u32 b, .int .u32 c] 34 (0, 0)) := by rw [← hw1]; exact heap_third _ _ _ _
    exact ⟨by rw [cell_of_row _ _ _ _ _ _ hx]; rfl, by rw [cell_of_row _ _ _ _ _ _ hx]; rfl, by rw [cell_of_row _ _ _ _ _ _ hx]; rfl⟩
  have hg1 : w.grownBy w1 none := by rw [← hw1]; exact ((World.grownBy_alloc _ _ none).trans (World.grownBy_alloc _ _ _)).trans (World.grownBy_alloc _ _ _)
  rw [hw1]
  have HG1 := Go.Lib.hid hg1
  have HQ0 := Go.Lib.hid hq0
  have HS0 := Go.Lib.hid hs0
  obtain ⟨s0, s1⟩ := hs0
  have fc := Rs.cells hb0
  clear hw1 hg1 hq0 hb0
  have HREAD : Hid (∀ y : World, w1.grownBy y none → Calls Try.prog 20 #[.agg #[r.st, r.c1, r.c2, r.sp, r.cap, r.park, r.win, .slice r.evA r.evn r.evc, r.wt, .slice r.cmA r.cmn r.cmc, r.sh, r.fl, r.sps]] y fun e w' => ∃ hb A c l wb F, e = .returned (.pointer (some ⟨hb, 0, none⟩)) ∧ HistAt w' hb A c l wb F (histF es) ∧ y.grownBy w' none ∧ l.length ≤ cs.length ∧
      (∀ x, x ∈ l ↔ x ∈ cs ∧ x.o = 1) ∧ l.Pairwise (fun x y => ¬ elt y x)) := fun y hg => read_any r es cs y HN.out.1 HN.out.2 (row_by HR.out (HG1.out.trans hg)) (row_by HR2.out (HG1.out.trans hg)) HO.out HM.out.1 HM.out.2
  have HK : Hid (∀ y : World, w1.drew.grownBy y none → w.grownBy y none ∧ y.cell? ⟨w.heap.size + 1, 0, none⟩ = some (.string ByteArray.empty) ∧ y.cell? ⟨w.heap.size + 1, 1, none⟩ = some (.string ByteArray.empty) ∧
      y.cell? ⟨w.heap.size + 1 + 1, 0, none⟩ = some (.int .u64 a) ∧ y.cell? ⟨w.heap.size + 1 + 1, 1, none⟩ = some (.int .u32 b) ∧ y.cell? ⟨w.heap.size + 1 + 1, 2, none⟩ = some (.int .u32 c)) := fun y hg => by
    have hg := (by_heap rfl rfl rfl rfl : w1.grownBy w1.drew none).trans hg
    exact ⟨HG1.out.trans hg, cell_by hg HS0.out.1, cell_by hg HS0.out.2, cell_by hg HQ0.out.1, cell_by hg HQ0.out.2.1, cell_by hg HQ0.out.2.2⟩
  have HWI : Hid (∀ (m : Nat) (l : List Ent) (y : World), MapIs Value.string wrV y m (foldF (histF es) (l.takeWhile (onF a b c))) → Calls Try.prog 24 #[.map (some m), .agg #[.string ByteArray.empty, .string ByteArray.empty]] y fun e w' => ∃ A c' ps, e = .returned (.slice A ps.length c') ∧ ps.length ≤ c' ∧ RowAt prv 2 w' A ps ∧ y.grownBy w' none ∧
      (∀ k v, (k, v) ∈ ps ↔ ∃ x, foldF (histF es) (l.takeWhile (onF a b c)) k = some x ∧ x.2.2 = v) ∧ ps.length ≤ es.length) := fun m l y hm => by
    have hl : (keysE es).length = es.length := by simp [keysE]
    have := within_any m _ y hm (keysE es) (foldF_keys _ _ (histF_keys es) _) (by rw [hl]; exact HM.out.1)
    rw [hl] at this
    exact this
  go_region_law (first
    | (go_simp; go_at_call 20; refine (HREAD.out w1.drew (by_heap rfl rfl rfl rfl)).mono ?_; rintro e w2 ⟨hb, A, n, l, wb, F, rfl, hist, hg2, hlen, hmem, hsort⟩; have hz := HK.out w2 hg2; have k0 := hz.2.1; have k1 := hz.2.2.1)
    | (go_simp; go_at_call 21; refine (upTo_any hb A n l wb F (histF es) a b c (w.heap.size + 1 + 1) w2.drew (hist.kept (by_heap rfl rfl rfl rfl)) (Nat.lt_of_le_of_lt hlen HM.out.2) hz.2.2.2.1 hz.2.2.2.2.1 hz.2.2.2.2.2).mono ?_; rintro e w3 ⟨rfl, hm3, hg3⟩; have hy := (hz.1.trans (by_heap rfl rfl rfl rfl : w2.grownBy w2.drew none)).trans hg3; have k0 := cell_by hg3 hz.2.1; have k1 := cell_by hg3 hz.2.2.1)
    | (go_simp; go_at_call 21; refine (upTo_any hb A n l wb F (histF es) a b c (w.heap.size + 1 + 1) w2 hist (Nat.lt_of_le_of_lt hlen HM.out.2) hz.2.2.2.1 hz.2.2.2.2.1 hz.2.2.2.2.2).mono ?_; rintro e w3 ⟨rfl, hm3, hg3⟩; have hy := hz.1.trans hg3; have k0 := cell_by hg3 hz.2.1; have k1 := cell_by hg3 hz.2.2.1)
    | (go_simp; go_at_call 24; refine (HWI.out _ l w3 hm3).mono ?_; rintro e w4 ⟨A', n', ps, rfl, hn', hrow, hg4, hmem', hlen'⟩; have hv := hy.trans hg4; have HFIN := Go.Lib.hid (And.intro hn' (And.intro hrow (And.intro hv (And.intro hmem' (And.intro hlen' (And.intro hmem hsort)))))))
    | (go_simp; go_at_call 24; refine (HWI.out _ l w3.drew (hm3.kept (by_heap rfl rfl rfl rfl) (fun h => by cases h))).mono ?_; rintro e w4 ⟨A', n', ps, rfl, hn', hrow, hg4, hmem', hlen'⟩; have hv := (hy.trans (by_heap rfl rfl rfl rfl : w3.grownBy w3.drew none)).trans hg4; have HFIN := Go.Lib.hid (And.intro hn' (And.intro hrow (And.intro hv (And.intro hmem' (And.intro hlen' (And.intro hmem hsort))))))))
  all_goals clear hn' hrow hv hmem' hlen' hmem hsort hy hg4 hg3 hm3 hist hz
  all_goals go_wp2
  all_goals go_ret
  all_goals exact ⟨A', n', ps, l, rfl, HFIN.out⟩
end Go.Proofs.Ytnojphaipfmiiaa
