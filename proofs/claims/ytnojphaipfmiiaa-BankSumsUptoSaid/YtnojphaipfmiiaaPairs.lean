/- The contract of tidemarkref18's pairs. Lists shorter than 2^40. -/
import Derived.Test.YtnojphaipfmiiaaNewest
namespace Go.Proofs.Ytnojphaipfmiiaa
open Go.RowKit Go.Sort
set_option linter.unusedVariables false
set_option linter.unusedSimpArgs false
attribute [local go_sem high] eq34 eq49
theorem info60 : (Try.prog.info? 60).map (fun i => (i.zero, i.size, i.bytes)) = some (some (.agg #[.string ⟨#[]⟩, .string ⟨#[]⟩]), 2, 32) := by kernel_rfl
theorem mixed : Try.prog.follows .mixedOrders = true := by kernel_rfl
theorem prv_one (p : Pr) : ∀ v ∈ prv p, v.oneCell' = true := by
  intro v hv; simp [prv] at hv; rcases hv with rfl | rfl <;> rfl

theorem blk_alloc {w : World} {g : Nat} {o : Obj} (h : w.heap[g]? = some o) (o' : Obj) : (w.alloc o').heap[g]? = some o := (Below.heap_alloc w o' g (blk_lt' h)).trans h
theorem heap_third (w : World) (A B C : Obj) : (((w.alloc A).alloc B).alloc C).heap[w.heap.size + 1 + 1]? = some C := by
  have := heap_alloc_last ((w.alloc A).alloc B) C
  simpa using this
theorem heap_fourth (w : World) (A B C D : Obj) : ((((w.alloc A).alloc B).alloc C).alloc D).heap[w.heap.size + 1 + 1 + 1]? = some D := by
  have := heap_alloc_last (((w.alloc A).alloc B).alloc C) D
  simpa using this
theorem Rs.cells {w : World} {g : Nat} {r : Rs} (h : w.heap[g]? = some (.cells r.v 31 (0, 0))) :
    w.cell? ⟨g, 0, none⟩ = some (r.st) ∧ w.cell? ⟨g, 1, none⟩ = some (r.c1) ∧ w.cell? ⟨g, 2, none⟩ = some (r.c2) ∧ w.cell? ⟨g, 3, none⟩ = some (r.sp) ∧ w.cell? ⟨g, 4, none⟩ = some (r.cap) ∧ w.cell? ⟨g, 5, none⟩ = some (r.park) ∧ w.cell? ⟨g, 6, none⟩ = some (r.win) ∧ w.cell? ⟨g, 7, none⟩ = some (.slice r.evA r.evn r.evc) ∧ w.cell? ⟨g, 8, none⟩ = some (r.wt) ∧ w.cell? ⟨g, 9, none⟩ = some (.slice r.cmA r.cmn r.cmc) ∧ w.cell? ⟨g, 10, none⟩ = some (r.sh) ∧ w.cell? ⟨g, 11, none⟩ = some (r.fl) ∧ w.cell? ⟨g, 12, none⟩ = some (r.sps) := by
  refine ⟨?_, ?_, ?_, ?_, ?_, ?_, ?_, ?_, ?_, ?_, ?_, ?_, ?_⟩ <;> rw [cell_of_row w g _ _ _ _ h] <;> rfl
/-- The pair of a key in the state at a stamp, if there is one. -/
def pairAt (es : List Evt) (cs : List Ent) (a b c : Int) (key : ByteArray) : List Pr :=
  let p := (newF es cs key a b c).1
  if p < 0 then [] else match es[p.toNat]? with
    | some x => if x.a.k = 4 then [(x.a.key, x.a.val)] else []
    | none => []
def pairsF (es : List Evt) (cs : List Ent) (a b c : Int) (ks : List ByteArray) : List Pr := ks.flatMap (pairAt es cs a b c)

theorem own_below {w w1 : World} {base : Nat} {e : TypeId} {size n : Nat} {v : Value} {xs : List Value} (h : w.ownsRow base e size v n xs) (hb : Below w.heap.size w w1) : w1.ownsRow base e size v n xs := by
  obtain ⟨hl, h | ⟨g, cap, cur, hv, hB, hg, hr⟩⟩ := h
  · exact ⟨hl, .inl h⟩
  · exact ⟨hl, .inr ⟨g, cap, cur, hv, hB, (hb.block g (blk_lt' hg)).trans hg, hr⟩⟩
theorem cell_news (w : World) (l : List Value) (t : TypeId) (g : Nat) (hg : g = w.heap.size) : ∀ j u, l[j]? = some u → (w.alloc (.cells l.toArray t)).cell? ((⟨g, 0, none⟩ : Addr).add j) = some u := by
  intro j u h
  subst hg
  rw [Addr.add_mid, Nat.zero_add, cell_of_row _ _ _ _ _ _ (heap_alloc_last w _)]
  simpa using h
theorem lastI_lt (es : List Evt) (e f : Int) (key : ByteArray) : ∀ n, lastI es e f key n < n ∧ (-1 : Int) ≤ lastI es e f key n
  | 0 => by simp [lastI]
  | n + 1 => by
    have ih := lastI_lt es e f key n
    unfold lastI
    split
    · split
      · omega
      · omega
    · omega
theorem newF_lt (es : List Evt) (key : ByteArray) (a b c : Int) (cs : List Ent) : (newF es cs key a b c).1 < es.length := by
  have : ∀ (cs : List Ent) (s : Int × Ent), s.1 < (es.length : Int) → (cs.foldl (newStep es key a b c) s).1 < es.length := by
    intro cs
    induction cs with
    | nil => intro s h; exact h
    | cons x cs ih =>
      intro s h
      rw [List.foldl_cons]
      refine ih _ ?_
      unfold newStep
      split
      · exact h
      · split
        · exact h
        · split
          · exact h
          · split
            · exact (lastI_lt es x.c x.s key es.length).1
            · exact h
  exact this cs (-1, default) (by show (-1 : Int) < _; omega)
theorem pairsF_length (es : List Evt) (cs : List Ent) (a b c : Int) (ks : List ByteArray) : (pairsF es cs a b c ks).length ≤ ks.length := by
  induction ks with
  | nil => simp [pairsF]
  | cons k ks ih =>
    have h1 : (pairAt es cs a b c k).length ≤ 1 := by
      unfold pairAt
      simp only
      split
      · simp
      · split
        · split <;> simp
        · simp
    have e : pairsF es cs a b c (k :: ks) = pairAt es cs a b c k ++ pairsF es cs a b c ks := by simp [pairsF]
    rw [e, List.length_append, List.length_cons]
    omega
theorem info65 : (Try.prog.info? 65).map (·.size) = some 9 := by kernel_rfl
theorem info65l (x : Ans) : (Try.prog.info? 65).map (·.size) = some x.o.length := info65
theorem info65a (x : Ans) : (Try.prog.info? 65).map (·.size) = some x.o.toArray.size := info65
theorem Ans.one_o (x : Ans) : x.o.toArray.all (·.oneCell') = true := by
  simp only [Ans.o, List.all_toArray]
  rfl
set_option maxHeartbeats 1600000 in
set_option maxRecDepth 1000000 in
theorem pairs_any (r : Rs) (es : List Evt) (cs : List Ent) (a b c : Int) (w : World) (hn : r.evn = es.length) (hn2 : r.cmn = cs.length) (hr : RowAt Evt.l 20 w r.evA es) (hr2 : RowAt Ent.v 7 w r.cmA cs)
    (hone : ∀ x ∈ es, x.a.ps.oneCell' = true) (hm : es.length < Big) (hm2 : cs.length < Big) :
    Calls Try.prog 25 #[.agg r.v, .agg #[.string ByteArray.empty, .string ByteArray.empty], .agg #[.int .u64 a, .int .u32 b, .int .u32 c], .bool false, .agg #[.int .u32 0, .int .u32 0], .int .i64 0] w fun q w' =>
      (∃ A' c', q = .returned (.slice A' (pairsF es cs a b c (keysL es)).length c') ∧ (pairsF es cs a b c (keysL es)).length ≤ c' ∧ RowAt prv 2 w' A' (pairsF es cs a b c (keysL es))) ∧ Below w.heap.size w w' := by
  obtain ⟨i0, hi, hz0, hz1, hz2⟩ := info_parts info60
  have hmix := mixed
  have HR := Lib.hid hr
  have HR2 := Lib.hid hr2
  have HO := Lib.hid hone
  have HN := Lib.hid hn
  have HN2 := Lib.hid hn2
  clear hr hone hn hr2 hn2
  have HBX := Lib.hid (blk_alloc (blk_alloc (blk_alloc (heap_alloc_last w (.cells r.v 31)) (.cells #[.string ByteArray.empty, .string ByteArray.empty] 58)) (.cells #[.int .u64 a, .int .u32 b, .int .u32 c] 34)) (.cells #[.int .u32 0, .int .u32 0] 49))
  go_enter Try.func25, Try.ntmps25
  go_wp2_with (with_reducible refine wpList_load_row rfl 31 _ rfl w.heap.size rfl 31 r.v (0, 0) _ HBX.out Try.underlying31 rfl (info31a r) ?_)
  obtain ⟨W0, hW0⟩ : ∃ W0, (((w.alloc (.cells r.v 31)).alloc (.cells #[.string ByteArray.empty, .string ByteArray.empty] 58)).alloc (.cells #[.int .u64 a, .int .u32 b, .int .u32 c] 34)).alloc (.cells #[.int .u32 0, .int .u32 0] 49) = W0 := ⟨_, rfl⟩
  have hg0 : Gr w W0 := by rw [← hW0]; exact ((((Gr.refl _).alloc _).alloc _).alloc _).alloc _
  have hs0 : W0.heap.size = w.heap.size + 4 := by rw [← hW0]; simp
  have hb0 : W0.heap[w.heap.size]? = some (.cells r.v 31 (0, 0)) := by rw [← hW0]; exact (blk_alloc (blk_alloc (blk_alloc (heap_alloc_last _ _) _) _) _)
  have hb1 : W0.cell? ⟨w.heap.size + 1 + 1, 0, none⟩ = some (.int .u64 a) := by rw [← hW0, cell_of_row _ _ _ _ _ _ (blk_alloc (heap_third _ _ _ _) _)]; rfl
  have hb2 : W0.cell? ⟨w.heap.size + 1 + 1, 1, none⟩ = some (.int .u32 b) := by rw [← hW0, cell_of_row _ _ _ _ _ _ (blk_alloc (heap_third _ _ _ _) _)]; rfl
  have hb3 : W0.cell? ⟨w.heap.size + 1 + 1, 2, none⟩ = some (.int .u32 c) := by rw [← hW0, cell_of_row _ _ _ _ _ _ (blk_alloc (heap_third _ _ _ _) _)]; rfl
  have hb4 : W0.cell? ⟨w.heap.size + 1 + 1 + 1, 0, none⟩ = some (.int .u32 0) := by rw [← hW0, cell_of_row _ _ _ _ _ _ (heap_fourth _ _ _ _ _)]; rfl
  have hb5 : W0.cell? ⟨w.heap.size + 1 + 1 + 1, 1, none⟩ = some (.int .u32 0) := by rw [← hW0, cell_of_row _ _ _ _ _ _ (heap_fourth _ _ _ _ _)]; rfl
  rw [hW0]
  refine (keys_any r es W0 HN.out (HR.out.below hg0.below) HO.out hm).mono ?_
  obtain ⟨ks, hks⟩ : ∃ ks, keysL es = ks := ⟨_, rfl⟩
  rw [hks]
  have HKS := Lib.hid hks
  clear hks
  rintro u1 w1 ⟨⟨A, cc, rfl, hcc, hka⟩, hbl⟩
  have hbl2 : Below w.heap.size w w1 := hg0.below.trans (hbl.mono hg0.size)
  have HH0 : Hid (w1.heap[w.heap.size]? = some (.cells r.v 31 (0, 0)) ∧ W0.heap.size ≤ w1.heap.size ∧ RowAt strv 1 w1 A ks ∧ ks.length ≤ cc ∧ Below w.heap.size w w1) := ⟨(hbl.block _ (by omega)).trans hb0, hbl.size, hka, hcc, hbl2⟩
  have hb1 := (hbl.cell (p := ⟨w.heap.size + 1 + 1, 0, none⟩) (show w.heap.size + 1 + 1 < W0.heap.size by omega)).trans hb1
  have hb2 := (hbl.cell (p := ⟨w.heap.size + 1 + 1, 1, none⟩) (show w.heap.size + 1 + 1 < W0.heap.size by omega)).trans hb2
  have hb3 := (hbl.cell (p := ⟨w.heap.size + 1 + 1, 2, none⟩) (show w.heap.size + 1 + 1 < W0.heap.size by omega)).trans hb3
  have hb4 := (hbl.cell (p := ⟨w.heap.size + 1 + 1 + 1, 0, none⟩) (show w.heap.size + 1 + 1 + 1 < W0.heap.size by omega)).trans hb4
  have hb5 := (hbl.cell (p := ⟨w.heap.size + 1 + 1 + 1, 1, none⟩) (show w.heap.size + 1 + 1 + 1 < W0.heap.size by omega)).trans hb5
  have hs1 : w.heap.size + 4 ≤ w1.heap.size := by have := hbl.size; omega
  clear hb0 hbl hg0 hs0 hW0 hka hcc hbl2
  go_wp2_with fail
  go_loopw [13, 15, 16, 17] (fun v13 v15 v16 v17 wr => ∃ (i : Nat), i ≤ ks.length ∧ v15 = .int .i64 i ∧ Hid (wr.ownsRow w1.heap.size 60 2 v13 (pairsF es cs a b c (ks.take i)).length ((pairsF es cs a b c (ks.take i)).flatMap prv) ∧ Below w1.heap.size w1 wr))
    (fun _ v15 _ _ _ => ks.length - (intOf v15).toNat)
  case atStart => exact ⟨0, Nat.zero_le _, rfl, ⟨rfl, .inl ⟨rfl, rfl⟩⟩, Below.refl _ _⟩
  case round =>
    obtain ⟨i, hil, rfl, HH⟩ := hrel
    have hkl : ks.length ≤ es.length := by rw [← HKS.out]; exact keysL_length es
    have hi64 : i < 1099511627777 := by have := Big_eq; omega
    have hb := HH.out.2
    have hws : w1.heap.size ≤ wr.heap.size := hb.size
    by_cases hlt : i < ks.length
    · obtain ⟨key, hx⟩ : ∃ x, ks[i]? = some x := ⟨ks[i]'hlt, by simp⟩
      have htk : ks.take (i + 1) = ks.take i ++ [key] := by rw [List.take_add_one, hx]; rfl
      obtain ⟨g, off, hA, hrow⟩ := HH0.out.2.2.1 i key hx
      subst hA
      have hcell : wr.cell? ⟨g, off + i, none⟩ = some (.string key) := by
        have h1 : w1.cell? ⟨g, off + i * 1 + 0, none⟩ = some (.string key) := hrow 0 _ rfl
        rw [Nat.mul_one, Nat.add_zero] at h1
        rw [hb.cell (World.block_lt_of_cell? w1 _ h1)]; exact h1
      have hbox : wr.heap[w.heap.size]? = some (.cells r.v 31 (0, 0)) := (hb.block _ (by omega)).trans HH0.out.1
      have hwl : Below w.heap.size w wr := HH0.out.2.2.2.2.trans (hb.mono HH0.out.2.2.2.2.size)
      have hd1 := (hb.cell (p := ⟨w.heap.size + 1 + 1, 0, none⟩) (show w.heap.size + 1 + 1 < w1.heap.size by omega)).trans hb1
      have hd2 := (hb.cell (p := ⟨w.heap.size + 1 + 1, 1, none⟩) (show w.heap.size + 1 + 1 < w1.heap.size by omega)).trans hb2
      have hd3 := (hb.cell (p := ⟨w.heap.size + 1 + 1, 2, none⟩) (show w.heap.size + 1 + 1 < w1.heap.size by omega)).trans hb3
      have hd4 := (hb.cell (p := ⟨w.heap.size + 1 + 1 + 1, 0, none⟩) (show w.heap.size + 1 + 1 + 1 < w1.heap.size by omega)).trans hb4
      have hd5 := (hb.cell (p := ⟨w.heap.size + 1 + 1 + 1, 1, none⟩) (show w.heap.size + 1 + 1 + 1 < w1.heap.size by omega)).trans hb5
      have hlti : (i : Int) < (ks.length : Int) := by omega
      have HALL : Hid (∀ w2, Gr wr w2 → w2.cell? ⟨g, off + i, none⟩ = some (.string key) ∧ w2.cell? ⟨w.heap.size + 1 + 1, 0, none⟩ = some (.int .u64 a) ∧ w2.cell? ⟨w.heap.size + 1 + 1, 1, none⟩ = some (.int .u32 b) ∧ w2.cell? ⟨w.heap.size + 1 + 1, 2, none⟩ = some (.int .u32 c) ∧
          w2.cell? ⟨w.heap.size + 1 + 1 + 1, 0, none⟩ = some (.int .u32 0) ∧ w2.cell? ⟨w.heap.size + 1 + 1 + 1, 1, none⟩ = some (.int .u32 0) ∧ w2.heap[w.heap.size]? = some (.cells r.v 31 (0, 0)) ∧ Below w.heap.size w w2) := fun w2 g2 =>
        ⟨(g2.below.cell (World.block_lt_of_cell? wr _ hcell)).trans hcell, (g2.below.cell (World.block_lt_of_cell? wr _ hd1)).trans hd1, (g2.below.cell (World.block_lt_of_cell? wr _ hd2)).trans hd2, (g2.below.cell (World.block_lt_of_cell? wr _ hd3)).trans hd3,
          (g2.below.cell (World.block_lt_of_cell? wr _ hd4)).trans hd4, (g2.below.cell (World.block_lt_of_cell? wr _ hd5)).trans hd5, (g2.below.block _ (blk_lt' hbox)).trans hbox, hwl.trans (g2.below.mono hwl.size)⟩
      clear hd1 hd2 hd3 hd4 hd5 hbox hrow hcell
      have fq := fun n os => HALL.out _ ((Gr.refl wr).grown n os)
      have fc := fun n os => Rs.cells (fq n os).2.2.2.2.2.2.1
      have f1 := fun n os => (fq n os).1
      have f4 := fun n os => (fq n os).2.2.2.2.1
      have f5 := fun n os => (fq n os).2.2.2.2.2.1
      have hcl : ∀ n os, Calls Try.prog 38 #[.agg r.v, .agg #[.int .u32 0, .int .u32 0], .string key, .int .i64 0] (grow (wr.drewN n) os) fun q w' => q = .returned (.int .i64 (-1)) ∧ Gr (grow (wr.drewN n) os) w' := fun n os =>
        last_any r es 0 0 key 0 _ HN.out (Nat.zero_le _) (HR.out.below (fq n os).2.2.2.2.2.2.2) HO.out (by have := Big_eq; omega)
      have HCL := Lib.hid hcl
      clear hcl fq
      go_wp2_with fail
      go_quiet_grown (first | (go_at_call 38; refine Gr.quiet (HCL.out _ _)))
      clear fc f1 f4 f5
      obtain ⟨w2, hw2⟩ : ∃ w2, grow (wr.drewN nq) osq = w2 := ⟨_, rfl⟩
      have hg2 : Gr wr w2 := by rw [← hw2]; exact (Gr.refl wr).grown nq osq
      rw [hw2]
      have HG2 := Lib.hid hg2
      clear hw2 hg2
      have fq := fun n os => HALL.out _ (HG2.out.grown n os)
      have fc := fun n os => Rs.cells (fq n os).2.2.2.2.2.2.1
      have f1 := fun n os => (fq n os).1
      have f4 := fun n os => (fq n os).2.1
      have f5 := fun n os => (fq n os).2.2.1
      have f6 := fun n os => (fq n os).2.2.2.1
      have hcl : ∀ n os, Calls Try.prog 39 #[.agg r.v, .string key, .agg #[.int .u64 a, .int .u32 b, .int .u32 c], .bool false] (grow (w2.drewN n) os) fun q w' => q = .returned (.int .i64 (newF es cs key a b c).1) ∧ Gr (grow (w2.drewN n) os) w' := fun n os =>
        newest_any r es cs key a b c _ HN.out HN2.out (HR.out.below (fq n os).2.2.2.2.2.2.2) (HR2.out.below (fq n os).2.2.2.2.2.2.2) HO.out hm hm2
      obtain ⟨p, hp⟩ : ∃ p, (newF es cs key a b c).1 = p := ⟨_, rfl⟩
      rw [hp] at hcl
      have HP := Lib.hid hp
      have HCL2 := Lib.hid hcl
      clear hcl fq hp
      go_wp2_with fail
      go_quiet_grown (first | (go_at_call 39; refine Gr.quiet (HCL2.out _ _)))
      clear fc f1 f4 f5 f6
      obtain ⟨w3, hw3⟩ : ∃ w3, grow (w2.drewN nq) osq = w3 := ⟨_, rfl⟩
      have hg3 : Gr wr w3 := by rw [← hw3]; exact HG2.out.grown nq osq
      rw [hw3]
      have HG3 := Lib.hid hg3
      have hs3 := hg3.size
      clear hw3 hg3
      have hnil : p < 0 → pairsF es cs a b c (ks.take (i + 1)) = pairsF es cs a b c (ks.take i) := fun h => by
        rw [htk, pairsF, List.flatMap_append]
        simp only [List.flatMap_cons, List.flatMap_nil, List.append_nil, pairAt, HP.out, if_pos h]
        rfl
      have hkeep : pairsF es cs a b c (ks.take (i + 1)) = pairsF es cs a b c (ks.take i) → Hid (w3.ownsRow w1.heap.size 60 2 u13 (pairsF es cs a b c (ks.take (i + 1))).length ((pairsF es cs a b c (ks.take (i + 1))).flatMap prv) ∧ Below w1.heap.size w1 w3) := fun h => by
        show _ ∧ _
        rw [h]
        exact ⟨own_below HH.out.1 HG3.out.below, HH.out.2.trans (HG3.out.below.mono HH.out.2.size)⟩
      have HNIL := Lib.hid hnil
      have HKEEP := Lib.hid hkeep
      clear hnil hkeep
      by_cases hp0 : p < 0
      · have HF := HKEEP.out (HNIL.out hp0)
        have hp1 : ¬ (0 : Int) ≤ p := by omega
        go_wp2
        go_roundw
        case rel => exact ⟨i + 1, hlt, by go_num, HF⟩
        case measure => simp [intOf]; omega
      · obtain ⟨j, hj⟩ : ∃ j : Nat, p = (j : Int) := ⟨p.toNat, by omega⟩
        have hjl : j < es.length := by have := newF_lt es key a b c cs; rw [HP.out, hj] at this; omega
        obtain ⟨x, hx⟩ : ∃ x, es[j]? = some x := ⟨es[j]'hjl, by simp⟩
        obtain ⟨ge, oe, hAe, hrowe⟩ := HR.out j x hx
        obtain ⟨-, -, -, -, -, -, hb3, hwl3⟩ := HALL.out w3 HG3.out
        have hevc := (Rs.cells hb3).2.2.2.2.2.2.2.1
        rw [hAe] at hevc
        have hrow3 : w3.rangeAt ge (oe + j * 20 + 2 + 3) x.a.o := fun q v hv => by
          have hv' : x.l[5 + q]? = some v := by
            have hq : q < 9 := (List.getElem?_eq_some_iff.1 hv).1
            rcases (show q = 0 ∨ q = 1 ∨ q = 2 ∨ q = 3 ∨ q = 4 ∨ q = 5 ∨ q = 6 ∨ q = 7 ∨ q = 8 by omega) with rfl | rfl | rfl | rfl | rfl | rfl | rfl | rfl | rfl <;> exact hv
          have h1 : w.cell? ⟨ge, oe + j * 20 + (5 + q), none⟩ = some v := hrowe (5 + q) v hv'
          rw [hwl3.cell (World.block_lt_of_cell? w _ (show w.cell? ⟨ge, oe + j * 20 + 2 + 3 + q, none⟩ = some v by rw [← h1]; congr 2; omega))]
          rw [← h1]; congr 2; omega
        have hjn : (j : Int) < (r.evn : Int) := by rw [HN.out]; omega
        have HR3 := Lib.hid hrow3
        have HO1 := Lib.hid x.a.one_o
        have hpa : pairsF es cs a b c (ks.take (i + 1)) = pairsF es cs a b c (ks.take i) ++ (if x.a.k = 4 then [(x.a.key, x.a.val)] else []) := by
          rw [htk, pairsF, List.flatMap_append]
          simp only [List.flatMap_cons, List.flatMap_nil, List.append_nil, pairAt, HP.out, if_neg hp0]
          rw [hj]
          simp only [Int.toNat_natCast, hx]
          rfl
        subst hj
        have HPA := Lib.hid hpa
        have HJ : Hid (w.heap.size < w3.heap.size) := by show _ < _; omega
        have hs5 := HJ.out
        clear hpa hrowe hrow3 hAe hx hb3 hp0 HNIL HP hwl3 HR2 HN2 HO hlti
        generalize x.a = y at *
        have y0 : y.o[0]? = some (.int .i64 y.k) := rfl
        have y5 : y.o[5]? = some (.string y.key) := rfl
        have y7 : y.o[7]? = some (.string y.val) := rfl
        have GE := Lib.hid (Gr.one_alloc w3 (.cells y.o.toArray 65))
        by_cases h4 : y.k = 4
        · rw [if_pos h4] at HPA
          rw [h4] at y0
          have hown := own_below HH.out.1 (HG3.out.below.trans (GE.out.below.mono hs3))
          have hlen := pairsF_length es cs a b c (ks.take i)
          rw [List.length_take] at hlen
          have hbl4 : Below w1.heap.size w1 (w3.alloc (.cells y.o.toArray 65)) := HH.out.2.trans ((HG3.out.below.trans (GE.out.below.mono hs3)).mono HH.out.2.size)
          clear h4 HKEEP HH HALL
          generalize hpf : pairsF es cs a b c (ks.take i) = pf at *
          go_wp2_with (first | (with_reducible refine wpList_load_mid rfl 65 _ rfl ge (oe + j * 20 + 2 + 3) rfl y.o _ HR3.out Try.underlying65 rfl (info65l y) ?_) | ((with_reducible refine wpList_store_last rfl 65 _ _ rfl y.o.toArray 65 _ rfl rfl (info65a y) ?_ HO1.out ?_); · rfl) | (at_builtin; refine wpList_append_own _ rfl (.tmp 57) (.tmp 63) 55 rfl w1.heap.size 60 i0 (.agg #[.string ⟨#[]⟩, .string ⟨#[]⟩]) 2 32 Try.underlying55 hi hz0 hz1 hz2 rfl (by decide) _ _ _ rfl (hown.alloc _) ⟨_, 0, none⟩ 1 1 (prv (y.key, y.val)) rfl rfl (cell_news _ (prv (y.key, y.val)) _ _ (by simp)) (prv_one _) (by have := Big_eq; unfold maxLen; omega) (by have := Big_eq; omega) (by simp; omega) ?_; intro v' w4 hown' hgrow _))
          have hbl5 := (hbl4.alloc hbl4.size (.cells #[.string y.key, .string y.val] 60)).grown hgrow (by simp; omega) (fun k hk => own_ge hown k hk)
          have HF : Hid (w4.ownsRow w1.heap.size 60 2 v' (pairsF es cs a b c (ks.take (i + 1))).length ((pairsF es cs a b c (ks.take (i + 1))).flatMap prv) ∧ Below w1.heap.size w1 w4) := by
            show _ ∧ _
            rw [HPA.out]
            refine ⟨?_, hbl5⟩
            rw [List.length_append, List.flatMap_append]
            simpa using hown'
          clear hown' hgrow hbl5 hown hbl4
          go_roundw
          case rel => exact ⟨i + 1, hlt, by go_num, HF⟩
          case measure => simp [intOf]; omega
        · rw [if_neg h4, List.append_nil] at HPA
          have h4' := beq_eq_false_iff_ne.2 h4
          go_wp2_with (first | (with_reducible refine wpList_load_mid rfl 65 _ rfl ge (oe + j * 20 + 2 + 3) rfl y.o _ HR3.out Try.underlying65 rfl (info65l y) ?_) | ((with_reducible refine wpList_store_last rfl 65 _ _ rfl y.o.toArray 65 _ rfl rfl (info65a y) ?_ HO1.out ?_); · rfl))
          have HF := HKEEP.out HPA.out
          go_roundw
          case rel => exact ⟨i + 1, hlt, by go_num, own_below HF.out.1 GE.out.below, HF.out.2.trans (GE.out.below.mono HF.out.2.size)⟩
          case measure => simp [intOf]; omega
    · have hi' : i = ks.length := by omega
      have htk : ks.take i = ks := by rw [hi', List.take_length]
      rw [htk] at HH
      clear htk hi'
      go_wp2
      go_ret
      rw [← HKS.out] at HH
      obtain ⟨A', c', rfl, h1, h2, _⟩ := rowAt_of_owns (enc := prv) (fun _ => rfl) HH.out.1
      rw [HKS.out] at HH h1 h2 ⊢
      exact ⟨⟨A', c', rfl, h1, h2⟩, HH0.out.2.2.2.2.trans (HH.out.2.mono HH0.out.2.2.2.2.size)⟩
end Go.Proofs.Ytnojphaipfmiiaa
