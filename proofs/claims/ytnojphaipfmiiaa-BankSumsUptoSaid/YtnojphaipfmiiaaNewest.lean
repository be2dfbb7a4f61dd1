/- Contracts of tidemarkref18's keys and newest. Lists shorter than 2^40. -/
import Derived.Test.YtnojphaipfmiiaaLoop
namespace Go.Proofs.Ytnojphaipfmiiaa
open Go.RowKit Go.Sort
set_option linter.unusedVariables false
set_option linter.unusedSimpArgs false
attribute [local go_sem high] eq34 eq49
theorem wrB_self (a : Ans) : wrB a a.t1 a.t2 = isW a := by simp [wrB, isW]
def keyStep (l : List ByteArray) (x : Evt) : List ByteArray := if isW x.a then putL l x.a.key else l
def keysL (es : List Evt) : List ByteArray := es.foldl keyStep []
theorem putL_length (l : List ByteArray) (k : ByteArray) : (putL l k).length ≤ l.length + 1 := by
  unfold putL; split
  · omega
  · rw [insK_length]; omega
theorem keysL_snoc (es : List Evt) (x : Evt) : keysL (es ++ [x]) = keyStep (keysL es) x := by simp [keysL]
theorem keysL_length (es : List Evt) : (keysL es).length ≤ es.length := by
  have : ∀ (es : List Evt) (l : List ByteArray), (es.foldl keyStep l).length ≤ l.length + es.length := by
    intro es
    induction es with
    | nil => intro l; simp
    | cons x es ih =>
      intro l
      rw [List.foldl_cons]
      have h1 := ih (keyStep l x)
      have h2 : (keyStep l x).length ≤ l.length + 1 := by
        unfold keyStep; split
        · exact putL_length _ _
        · omega
      simp; omega
  have := this es []
  simpa [keysL] using this
/-- What is told of a result in memory: its box. -/
theorem box_of (r : Rs) (w : World) : (w.alloc (.cells r.v 31)).heap[w.heap.size]? = some (.cells r.v 31 (0, 0)) := heap_alloc_last w _
theorem blk_below {B : Nat} {W w1 : World} (hb : Below B W w1) {g : Nat} {o : Obj} (hg : g < B) (h : W.heap[g]? = some o) : w1.heap[g]? = some o := (hb.block g hg).trans h

set_option maxHeartbeats 800000 in
set_option maxRecDepth 1000000 in
theorem keys_any (r : Rs) (es : List Evt) (w : World) (hn : r.evn = es.length) (hr : RowAt Evt.l 20 w r.evA es) (hone : ∀ x ∈ es, x.a.ps.oneCell' = true) (hm : es.length < Big) :
    Calls Try.prog 37 #[.agg r.v, .agg #[.string ByteArray.empty, .string ByteArray.empty]] w fun q w' =>
      (∃ A' c', q = .returned (.slice A' (keysL es).length c') ∧ (keysL es).length ≤ c' ∧ RowAt strv 1 w' A' (keysL es)) ∧ Below w.heap.size w w' := by
  have HR := Lib.hid hr
  have HO := Lib.hid hone
  have HN := Lib.hid hn
  clear hr hone hn
  go_enter Try.func37, Try.ntmps37
  go_wp2
  obtain ⟨W0, hW0⟩ : ∃ W0, (w.alloc (.cells r.v 31)).alloc (.cells #[.string ByteArray.empty, .string ByteArray.empty] 58) = W0 := ⟨_, rfl⟩
  have hg0 : Gr w W0 := by rw [← hW0]; exact ((Gr.refl _).alloc _).alloc _
  have hs0 : w.heap.size + 1 < W0.heap.size := by rw [← hW0]; simp
  have hc0 : W0.cell? ⟨w.heap.size, 7, none⟩ = some (.slice r.evA r.evn r.evc) := by rw [← hW0]; simp [Rs.v]
  have hc1 : W0.cell? ⟨w.heap.size + 1, 0, none⟩ = some (.string ByteArray.empty) := by rw [← hW0]; simp
  have hc2 : W0.cell? ⟨w.heap.size + 1, 1, none⟩ = some (.string ByteArray.empty) := by rw [← hW0]; simp
  rw [hW0]
  have HG0 := Lib.hid hg0
  clear hW0 hg0
  go_loopw [5, 6, 7, 8] (fun v5 v6 v7 v8 wr => ∃ (i : Nat) (A : Option Addr) (c : Nat), i ≤ r.evn ∧ v6 = .int .i64 i ∧ v5 = .slice A (keysL (es.take i)).length c ∧ Hid ((keysL (es.take i)).length ≤ c ∧ RowAt strv 1 wr A (keysL (es.take i)) ∧ Below W0.heap.size W0 wr))
    (fun _ v6 _ _ _ => r.evn - (intOf v6).toNat)
  case atStart => exact ⟨0, none, 0, Nat.zero_le _, rfl, rfl, Nat.le_refl _, fun i x hx => by simp [keysL] at hx, Below.refl _ _⟩
  case round =>
    obtain ⟨i, A, c, hil, rfl, rfl, HH⟩ := hrel
    have hb := HH.out.2.2
    have hsz := hb.size
    have hw0 : wr.cell? ⟨w.heap.size, 7, none⟩ = some (.slice r.evA r.evn r.evc) := by rw [hb.cell (p := ⟨w.heap.size, 7, none⟩) (by show w.heap.size < _; omega)]; exact hc0
    have hw1 : wr.cell? ⟨w.heap.size + 1, 0, none⟩ = some (.string ByteArray.empty) := by rw [hb.cell (p := ⟨w.heap.size + 1, 0, none⟩) (by show w.heap.size + 1 < _; omega)]; exact hc1
    have hw2 : wr.cell? ⟨w.heap.size + 1, 1, none⟩ = some (.string ByteArray.empty) := by rw [hb.cell (p := ⟨w.heap.size + 1, 1, none⟩) (by show w.heap.size + 1 < _; omega)]; exact hc2
    have hs1 : w.heap.size + 1 < wr.heap.size := by omega
    have hs2 : w.heap.size < wr.heap.size := by omega
    have hi64 : i < 1099511627777 := by have := Big_eq; have := HN.out; omega
    by_cases hlt : i < r.evn
    · obtain ⟨x, hx⟩ : ∃ x, es[i]? = some x := ⟨es[i]'(by rw [← HN.out]; exact hlt), by simp⟩
      have htk : es.take (i + 1) = es.take i ++ [x] := by rw [List.take_add_one, hx]; rfl
      obtain ⟨b, off, hA, hrow⟩ := HR.out i x hx
      have hwb := HG0.out.below.trans (hb.mono HG0.out.size)
      have hrow2 : wr.rangeAt b (off + i * 20 + 2) x.a.l := fun j v hv => by
        have h1 : w.cell? ⟨b, off + i * 20 + (2 + j), none⟩ = some v := hrow (2 + j) v (by rw [Nat.add_comm]; exact hv)
        rw [← Nat.add_assoc] at h1
        rw [hwb.cell (World.block_lt_of_cell? w _ h1)]; exact h1
      have HC := Lib.hid (writes_any x.a x.a.t1 x.a.t2)
      have H1 := Lib.hid (Ans.one x.a (HO.out x (List.mem_of_getElem? hx)))
      have HR2 := Lib.hid hrow2
      have HT := Lib.hid htk
      have HWB := Lib.hid hwb
      clear hrow hrow2 hx hb htk hwb
      obtain ⟨y, hy⟩ : ∃ y, x.a = y := ⟨_, rfl⟩
      have HY := Lib.hid hy
      rw [hy] at HC H1 HR2
      clear hy
      rw [hA] at hw0
      have y1 : y.l[1]? = some (.int .u32 y.t1) := rfl
      have y2 : y.l[2]? = some (.int .u32 y.t2) := rfl
      have y8 : y.l[8]? = some (.string y.key) := rfl
      have HK : ∀ w2, Gr (wr.alloc (Obj.cells y.l.toArray 67)) w2 → w2.cell? ⟨wr.heap.size, 8, none⟩ = some (.string y.key) := fun w2 g => by
        rw [g.below.cell (p := ⟨wr.heap.size, 8, none⟩) (by simp)]
        simp [Ans.l]
      have HKS : Hid (keysL (es.take (i + 1)) = if isW y then putL (keysL (es.take i)) y.key else keysL (es.take i)) := by
        show _ = _
        rw [HT.out, keysL_snoc, keyStep, HY.out]
      cases hiw : isW y with
      | false =>
        rw [wrB_self, hiw] at HC
        go_wp2_with (first | (with_reducible refine wpList_load_mid rfl 67 _ rfl b (off + i * 20 + 2) rfl y.l _ HR2.out Try.underlying67 rfl (info67l y) ?_) | ((with_reducible refine wpList_store_last rfl 67 _ _ rfl y.l.toArray 67 _ rfl rfl (info67a y) ?_ H1.out ?_); · rfl) | (with_reducible refine wpList_load_row rfl 67 _ rfl _ rfl 67 _ (0, 0) _ (heap_alloc_last _ _) Try.underlying67 rfl (info67a y) ?_))
        refine (HC.out _).mono ?_
        rintro e1 w1 ⟨rfl, g1⟩
        go_wp2
        go_roundw
        case rel =>
          refine ⟨i + 1, A, c, hlt, by go_num, ?_, ?_⟩
          · rw [HKS.out, hiw]; rfl
          · show _ ∧ _ ∧ _
            rw [HKS.out, hiw]
            have g := (Gr.one_alloc wr (Obj.cells y.l.toArray 67)).trans g1
            exact ⟨HH.out.1, HH.out.2.1.below g.below, HH.out.2.2.trans (g.below.mono hsz)⟩
        case measure => simp [intOf]; omega
      | true =>
        rw [wrB_self, hiw] at HC
        go_wp2_with (first | (with_reducible refine wpList_load_mid rfl 67 _ rfl b (off + i * 20 + 2) rfl y.l _ HR2.out Try.underlying67 rfl (info67l y) ?_) | ((with_reducible refine wpList_store_last rfl 67 _ _ rfl y.l.toArray 67 _ rfl rfl (info67a y) ?_ H1.out ?_); · rfl) | (with_reducible refine wpList_load_row rfl 67 _ rfl _ rfl 67 _ (0, 0) _ (heap_alloc_last _ _) Try.underlying67 rfl (info67a y) ?_))
        refine (HC.out _).mono ?_
        rintro e1 w1 ⟨rfl, g1⟩
        have hk1 := HK w1 g1
        have hs3 := g1.size
        simp at hs3
        obtain ⟨hc3, hf3⟩ := bcell g1.below
        go_wp2_with fail
        refine (inside_none _ _).mono ?_
        rintro e1 w2 ⟨rfl, g2⟩
        have hk2 := HK w2 (g1.trans g2)
        go_wp2_with fail
        have g := ((Gr.one_alloc wr (Obj.cells y.l.toArray 67)).trans g1).trans g2
        have hlen := keysL_length (es.take i)
        refine (put_any A c (keysL (es.take i)) y.key w2 (HH.out.2.1.below g.below) HH.out.1 (by have := HN.out; simp at hlen; omega)).mono ?_
        rintro e1 w3 ⟨⟨A', c', rfl, hc', hr'⟩, hb'⟩
        have HF : Hid ((keysL (es.take (i + 1))).length ≤ c' ∧ RowAt strv 1 w3 A' (keysL (es.take (i + 1))) ∧ Below W0.heap.size W0 w3) := by
          show _ ∧ _ ∧ _
          rw [HKS.out, hiw]
          exact ⟨hc', hr', (HH.out.2.2.trans (g.below.mono hsz)).trans (hb'.mono (by have := g.size; omega))⟩
        clear hc' hr' hb' hlen
        go_wp2
        go_roundw
        case rel =>
          refine ⟨i + 1, A', c', hlt, by go_num, ?_, HF⟩
          rw [HKS.out, hiw]; rfl
        case measure => simp [intOf]; omega
    · have hi' : i = es.length := by have := HN.out; omega
      have htk : es.take i = es := by rw [hi', List.take_length]
      rw [htk] at HH ⊢
      clear htk hi'
      go_wp2
      go_ret
      exact ⟨⟨A, c, rfl, HH.out.1, HH.out.2.1⟩, HG0.out.below.trans (HH.out.2.2.mono HG0.out.size)⟩
def newStep (es : List Evt) (key : ByteArray) (a b c : Int) (s : Int × Ent) (e : Ent) : Int × Ent :=
  if e.o ≠ 1 then s else if sless a b c e.w e.l e.n = true then s else if lastI es e.c e.s key es.length < 0 then s else
    if s.1 < 0 ∨ lat e s.2 = true then (lastI es e.c e.s key es.length, e) else s
def newF (es : List Evt) (cs : List Ent) (key : ByteArray) (a b c : Int) : Int × Ent := cs.foldl (newStep es key a b c) (-1, default)
theorem newF_snoc (es : List Evt) (cs : List Ent) (key : ByteArray) (a b c : Int) (e : Ent) : newF es (cs ++ [e]) key a b c = newStep es key a b c (newF es cs key a b c) e := by simp [newF]
theorem info52 : (Try.prog.info? 52).map (·.size) = some 7 := by kernel_rfl
theorem info52l (x : Ent) : (Try.prog.info? 52).map (·.size) = some x.v.length := info52
theorem info52a (x : Ent) : (Try.prog.info? 52).map (·.size) = some x.v.toArray.size := info52
theorem info31a (r : Rs) : (Try.prog.info? 31).map (·.size) = some r.v.size := by
  have : (Try.prog.info? 31).map (·.size) = some 13 := by kernel_rfl
  exact this
theorem Ent.one (x : Ent) : x.v.toArray.all (·.oneCell') = true := by
  simp only [Ent.v, List.all_toArray]
  rfl
theorem blk_lt' {w : World} {g : Nat} {o : Obj} (h : w.heap[g]? = some o) : g < w.heap.size := (Array.getElem?_eq_some_iff.1 h).1
theorem below_setRow (w : World) (g : Nat) (cs : Array Value) : Below g w (w.setRow g cs) :=
  ⟨rfl, rfl, rfl, by simp [World.setRow], fun k hk => by
    simp only [World.setRow, Array.getElem?_modify]
    rw [if_neg (by omega)]⟩
theorem Gr.drawn {a w : World} (h : Gr a w) : a.drawn ≤ w.drawn := by
  obtain ⟨⟨n, os⟩, rfl⟩ := h
  show a.drawn ≤ (a.drewN n).drawn
  simp [World.drewN]
theorem Gr.of_below {a w : World} (hb : Below a.heap.size a w) (hd : a.drawn ≤ w.drawn) : Gr a w := by
  refine ⟨⟨w.drawn - a.drawn, w.heap.extract a.heap.size w.heap.size⟩, ?_⟩
  have h1 : w.heap = a.heap ++ w.heap.extract a.heap.size w.heap.size := by
    apply Array.ext_getElem?
    intro k
    by_cases hk : k < a.heap.size
    · rw [Array.getElem?_append_left hk]; exact hb.block k hk
    · rw [Array.getElem?_append_right (by omega)]
      by_cases hk2 : k < w.heap.size
      · rw [Array.getElem?_extract]
        rw [if_pos (by omega)]
        congr 1; omega
      · rw [Array.getElem?_eq_none (by omega), Array.getElem?_eq_none (by simp; omega)]
  obtain ⟨h, t, d, o, u⟩ := w
  have e1 := hb.os
  have e2 := hb.tape
  have e3 := hb.output
  simp only at h1 e1 e2 e3 hd
  subst e1 e2 e3
  simp only [grow, World.drewN]
  rw [← h1]
  congr 1
  omega
theorem Gr.setRow {a w : World} (h : Gr a w) (g : Nat) (hg : a.heap.size ≤ g) (cs : Array Value) : Gr a (w.setRow g cs) :=
  Gr.of_below (h.below.trans ((below_setRow w g cs).mono hg)) h.drawn
theorem Ent.cells {w : World} {g : Nat} {e : Ent} (h : w.heap[g]? = some (.cells e.v.toArray 52 (0, 0))) :
    w.cell? ⟨g, 0, none⟩ = some (.int .u32 e.c) ∧ w.cell? ⟨g, 1, none⟩ = some (.int .u32 e.s) ∧ w.cell? ⟨g, 2, none⟩ = some (.int .u32 e.h) ∧ w.cell? ⟨g, 3, none⟩ = some (.int .i64 e.o) ∧ w.cell? ⟨g, 4, none⟩ = some (.int .u64 e.w) ∧
      w.cell? ⟨g, 5, none⟩ = some (.int .u32 e.l) ∧ w.cell? ⟨g, 6, none⟩ = some (.int .u32 e.n) := by
  refine ⟨?_, ?_, ?_, ?_, ?_, ?_, ?_⟩ <;> rw [cell_of_row w g _ _ _ _ h] <;> rfl

/-- What newest's boxes hold. -/
structure NF (r : Rs) (a b c : Int) (N : Nat) (y : Ent) (w : World) : Prop where
  bx : w.heap[N]? = some (.cells r.v 31 (0, 0))
  c7 : w.cell? ⟨N, 7, none⟩ = some (.slice r.evA r.evn r.evc)
  c9 : w.cell? ⟨N, 9, none⟩ = some (.slice r.cmA r.cmn r.cmc)
  a0 : w.cell? ⟨N + 1, 0, none⟩ = some (.int .u64 a)
  a1 : w.cell? ⟨N + 1, 1, none⟩ = some (.int .u32 b)
  a2 : w.cell? ⟨N + 1, 2, none⟩ = some (.int .u32 c)
  bb : w.heap[N + 1 + 1]? = some (.cells y.v.toArray 52 (0, 0))
  s0 : N < w.heap.size
  s1 : N + 1 < w.heap.size
  s2 : N + 1 + 1 < w.heap.size
theorem NF.below {r : Rs} {a b c : Int} {N : Nat} {y : Ent} {w w1 : World} (h : NF r a b c N y w) (hb : Below w.heap.size w w1) : NF r a b c N y w1 :=
  ⟨(hb.block _ h.s0).trans h.bx, (hb.cell (p := ⟨N, 7, none⟩) h.s0).trans h.c7, (hb.cell (p := ⟨N, 9, none⟩) h.s0).trans h.c9, (hb.cell (p := ⟨N + 1, 0, none⟩) h.s1).trans h.a0, (hb.cell (p := ⟨N + 1, 1, none⟩) h.s1).trans h.a1,
    (hb.cell (p := ⟨N + 1, 2, none⟩) h.s1).trans h.a2, (hb.block _ h.s2).trans h.bb, Nat.lt_of_lt_of_le h.s0 hb.size, Nat.lt_of_lt_of_le h.s1 hb.size, Nat.lt_of_lt_of_le h.s2 hb.size⟩
theorem NF.of_box {r : Rs} {a b c : Int} {N : Nat} {y : Ent} {W0 w : World} (h0 : W0.heap[N]? = some (.cells r.v 31 (0, 0))) (h1 : W0.heap[N + 1]? = some (.cells #[.int .u64 a, .int .u32 b, .int .u32 c] 34 (0, 0)))
    (hb : Below (N + 1 + 1) W0 w) (hy : w.heap[N + 1 + 1]? = some (.cells y.v.toArray 52 (0, 0))) : NF r a b c N y w := by
  have k0 := (hb.block N (by omega)).trans h0
  have k1 := (hb.block (N + 1) (by omega)).trans h1
  have s2 := (Array.getElem?_eq_some_iff.1 hy).1
  refine ⟨k0, ?_, ?_, ?_, ?_, ?_, hy, by omega, by omega, s2⟩
  · rw [cell_of_row w N 7 _ _ _ k0]; rfl
  · rw [cell_of_row w N 9 _ _ _ k0]; rfl
  · rw [cell_of_row w (N + 1) 0 _ _ _ k1]; rfl
  · rw [cell_of_row w (N + 1) 1 _ _ _ k1]; rfl
  · rw [cell_of_row w (N + 1) 2 _ _ _ k1]; rfl

set_option maxHeartbeats 1600000 in
set_option maxRecDepth 1000000 in
theorem newest_any (r : Rs) (es : List Evt) (cs : List Ent) (key : ByteArray) (a b c : Int) (w : World) (hn : r.evn = es.length) (hn2 : r.cmn = cs.length) (hr : RowAt Evt.l 20 w r.evA es) (hr2 : RowAt Ent.v 7 w r.cmA cs)
    (hone : ∀ x ∈ es, x.a.ps.oneCell' = true) (hm : es.length < Big) (hm2 : cs.length < Big) :
    Calls Try.prog 39 #[.agg r.v, .string key, .agg #[.int .u64 a, .int .u32 b, .int .u32 c], .bool false] w fun q w' =>
      q = .returned (.int .i64 (newF es cs key a b c).1) ∧ Gr w w' := by
  have HR := Lib.hid hr
  have HR2 := Lib.hid hr2
  have HO := Lib.hid hone
  have HN := Lib.hid hn
  have HN2 := Lib.hid hn2
  clear hr hone hn hr2 hn2
  go_enter Try.func39, Try.ntmps39
  go_wp2
  obtain ⟨W0, hW0⟩ : ∃ W0, (w.alloc (.cells r.v 31)).alloc (.cells #[.int .u64 a, .int .u32 b, .int .u32 c] 34) = W0 := ⟨_, rfl⟩
  have hg0 : Gr w W0 := by rw [← hW0]; exact ((Gr.refl _).alloc _).alloc _
  have hs0 : W0.heap.size = w.heap.size + 2 := by rw [← hW0]; simp
  have hb0 : W0.heap[w.heap.size]? = some (.cells r.v 31 (0, 0)) := by rw [← hW0]; exact (Below.heap_alloc _ _ _ (by simp)).trans (heap_alloc_last w _)
  have hb1 : W0.heap[w.heap.size + 1]? = some (.cells #[.int .u64 a, .int .u32 b, .int .u32 c] 34 (0, 0)) := by
    rw [← hW0]
    have := heap_alloc_last (w.alloc (.cells r.v 31)) (.cells #[.int .u64 a, .int .u32 b, .int .u32 c] 34)
    simpa using this
  rw [hW0]
  have HG0 := Lib.hid hg0
  have HS0 := Lib.hid hs0
  have HB0 := Lib.hid hb0
  have HB1 := Lib.hid hb1
  clear hW0 hg0 hs0 hb0 hb1
  go_loopw [9, 11, 12, 13] (fun v9 v11 v12 v13 wr => ∃ (i : Nat) (q : Int) (y : Ent), i ≤ r.cmn ∧ v9 = .int .i64 q ∧ v11 = .int .i64 i ∧ Hid ((q, y) = newF es (cs.take i) key a b c) ∧ Hid (wr.heap[w.heap.size + 1 + 1]? = some (.cells y.v.toArray 52 (0, 0)) ∧ Gr W0 wr))
    (fun _ v11 _ _ _ => r.cmn - (intOf v11).toNat)
  case atStart =>
    refine ⟨0, -1, default, Nat.zero_le _, rfl, rfl, rfl, ?_, ?_⟩
    · have := heap_alloc_last W0 (.cells (default : Ent).v.toArray 52)
      rw [HS0.out] at this
      exact this
    · exact (Gr.refl _).alloc _
  case round =>
    obtain ⟨i, q, y, hil, rfl, rfl, HF, HH⟩ := hrel
    have hN := NF.of_box (a := a) (b := b) (c := c) (r := r) HB0.out HB1.out (HH.out.2.below.mono (by rw [HS0.out]; omega)) HH.out.1
    have HNF := Lib.hid hN
    obtain ⟨bx, c7, c9, a0, a1, a2, bb, s0, s1, s2⟩ := hN
    have HBX := Lib.hid bx
    have HBB := Lib.hid bb
    clear bx bb
    have hi64 : i < 1099511627777 := by have := Big_eq; have := HN2.out; omega
    by_cases hlt : i < r.cmn
    · obtain ⟨e, he⟩ : ∃ e, cs[i]? = some e := ⟨cs[i]'(by rw [← HN2.out]; exact hlt), by simp⟩
      have htk : cs.take (i + 1) = cs.take i ++ [e] := by rw [List.take_add_one, he]; rfl
      obtain ⟨g, off, hA, hrow⟩ := HR2.out i e he
      have hsz : w.heap.size ≤ W0.heap.size := HG0.out.size
      have hwb : Below w.heap.size w wr := (HG0.out.trans HH.out.2).below
      have hrow2 : wr.rangeAt g (off + i * 7) e.v := fun j v hv => by
        have h1 := hrow j v hv
        rw [hwb.cell (World.block_lt_of_cell? w _ h1)]; exact h1
      have HE := Lib.hid hrow2
      have HT : Hid (newF es (cs.take (i + 1)) key a b c = newStep es key a b c (q, y) e) := by
        show _ = _; rw [htk, newF_snoc, HF.out]
      have HWB := Lib.hid hwb
      rw [hA] at c9
      clear hrow hrow2 htk hwb he hA
      have HSKIP : Hid (∀ w1, Gr wr w1 → newStep es key a b c (q, y) e = (q, y) → ((q, y) = newF es (cs.take (i + 1)) key a b c) ∧ (w1.heap[w.heap.size + 1 + 1]? = some (.cells y.v.toArray 52 (0, 0)) ∧ Gr W0 w1)) := fun w1 h hs => by
        refine ⟨by rw [HT.out, hs], (h.below.block _ s2).trans HBB.out, HH.out.2.trans h⟩
      have HL := Lib.hid (below_any a b c e.w e.l e.n)
      have e0 : e.v[0]? = some (.int .u32 e.c) := rfl
      have e1 : e.v[1]? = some (.int .u32 e.s) := rfl
      have e3 : e.v[3]? = some (.int .i64 e.o) := rfl
      have e4 : e.v[4]? = some (.int .u64 e.w) := rfl
      have e5 : e.v[5]? = some (.int .u32 e.l) := rfl
      have e6 : e.v[6]? = some (.int .u32 e.n) := rfl
      have GE := Lib.hid (Gr.one_alloc wr (.cells e.v.toArray 52))
      by_cases ho : e.o = 1
      · rw [ho] at e3
        cases hL : sless a b c e.w e.l e.n with
        | true =>
          have hst : newStep es key a b c (q, y) e = (q, y) := by simp [newStep, ho, hL]
          have HST := Lib.hid hst
          rw [hL] at HL
          clear hst hL ho
          go_wp2_with (first | (with_reducible refine wpList_load_mid rfl 52 _ rfl g (off + i * 7) rfl e.v _ HE.out Try.underlying52 rfl (info52l e) ?_) | ((with_reducible refine wpList_store_last rfl 52 _ _ rfl e.v.toArray 52 _ rfl rfl (info52a e) ?_ e.one ?_); · rfl))
          refine (HL.out _).mono ?_
          rintro u1 w1 ⟨rfl, g1⟩
          go_wp2
          have HFIN := HSKIP.out _ (GE.out.trans g1) HST.out
          go_roundw
          case rel => exact ⟨i + 1, q, y, hlt, rfl, by go_num, HFIN.1, HFIN.2⟩
          case measure => simp [intOf]; omega
        | false =>
          rw [hL] at HL
          have HLA : Hid (∀ w1, Below w.heap.size w w1 → Calls Try.prog 38 #[.agg r.v, .agg #[.int .u32 e.c, .int .u32 e.s], .string key, .int .i64 r.evn] w1 fun q w' => q = .returned (.int .i64 (lastI es e.c e.s key es.length)) ∧ Gr w1 w') := fun w1 hb => by
            have := last_any r es e.c e.s key r.evn w1 HN.out (by rw [HN.out]; exact Nat.le_refl _) (HR.out.below hb) HO.out (by have := Big_eq; omega)
            rw [HN.out] at this ⊢
            exact this
          have hst0 : newStep es key a b c (q, y) e = if lastI es e.c e.s key es.length < 0 then (q, y) else if q < 0 ∨ lat e y = true then (lastI es e.c e.s key es.length, e) else (q, y) := by simp [newStep, ho, hL]
          generalize lastI es e.c e.s key es.length = p at *
          have HST := Lib.hid hst0
          clear hst0 hL ho
          go_wp2_with (first | (with_reducible refine wpList_load_mid rfl 52 _ rfl g (off + i * 7) rfl e.v _ HE.out Try.underlying52 rfl (info52l e) ?_) | ((with_reducible refine wpList_store_last rfl 52 _ _ rfl e.v.toArray 52 _ rfl rfl (info52a e) ?_ e.one ?_); · rfl))
          refine (HL.out _).mono ?_
          rintro u1 w1 ⟨rfl, g1⟩
          have G1 := Lib.hid (GE.out.trans g1)
          obtain ⟨bx, c7', c9', a0', a1', a2', bb, s0', s1', s2'⟩ := HNF.out.below G1.out.below
          have HEB : Hid (w1.heap[wr.heap.size]? = some (.cells e.v.toArray 52 (0, 0))) := (g1.below.block _ (by simp)).trans (heap_alloc_last wr _)
          obtain ⟨k0, k1, k2, k3, k4, k5, k6⟩ := Ent.cells HEB.out
          have HBX1 := Lib.hid bx
          have HBB1 := Lib.hid bb
          clear bx bb
          go_wp2_with (with_reducible refine wpList_load_row rfl 31 _ rfl w.heap.size rfl 31 r.v (0, 0) _ HBX1.out Try.underlying31 rfl (info31a r) ?_)
          refine (HLA.out w1 (HWB.out.trans (G1.out.below.mono (by have := HWB.out.size; omega)))).mono ?_
          rintro u2 w2 ⟨rfl, g2⟩
          have G2 := Lib.hid (G1.out.trans g2)
          by_cases hp : p < 0
          · have HFIN := Lib.hid (HSKIP.out _ G2.out (by rw [HST.out, if_pos hp]))
            go_wp2
            go_roundw
            case rel => exact ⟨i + 1, q, y, hlt, rfl, by go_num, HFIN.out.1, HFIN.out.2⟩
            case measure => simp [intOf]; omega
          · have hst1 := HST.out
            rw [if_neg hp] at hst1
            obtain ⟨bx, c7', c9', a0', a1', a2', bb, s0', s1', s2'⟩ := HNF.out.below G2.out.below
            have HEB2 : Hid (w2.heap[wr.heap.size]? = some (.cells e.v.toArray 52 (0, 0))) := (g2.below.block _ (blk_lt' HEB.out)).trans HEB.out
            have HBB2 := Lib.hid bb
            have HUPD : Hid (∀ w3, Gr wr w3 → w3.heap[w.heap.size + 1 + 1]? = some (.cells y.v.toArray 52 (0, 0)) → Gr W0 (w3.setRow (w.heap.size + 1 + 1) e.v.toArray) ∧ (w3.setRow (w.heap.size + 1 + 1) e.v.toArray).heap[w.heap.size + 1 + 1]? = some (.cells e.v.toArray 52 (0, 0))) := fun w3 h hy => by
              refine ⟨(HH.out.2.trans h).setRow _ (by rw [HS0.out]; omega) _, ?_⟩
              simp only [World.setRow, Array.getElem?_modify, hy, if_true]
              rfl
            clear bx bb
            by_cases hq : q < 0
            · have HST1 : Hid (newStep es key a b c (q, y) e = (p, e)) := by show _ = _; rw [hst1, if_pos (Or.inl hq)]
              clear hst1
              go_wp2_with (first | (with_reducible refine wpList_load_row rfl 52 _ rfl wr.heap.size rfl 52 e.v.toArray (0, 0) _ HEB2.out Try.underlying52 rfl (info52a e) ?_) | ((with_reducible refine wpList_store_row rfl 52 _ _ rfl (w.heap.size + 1 + 1) e.v.toArray rfl rfl 52 y.v.toArray HBB2.out (info52a e) ?_ e.one ?_); · rfl))
              have HFIN := Lib.hid (HUPD.out w2 G2.out HBB2.out)
              go_roundw
              case rel => exact ⟨i + 1, p, e, hlt, rfl, by go_num, (by show _ = _; rw [HT.out, HST1.out]), HFIN.out.2, HFIN.out.1⟩
              case measure => simp [intOf]; omega
            · have HLT := Lib.hid (later_any e y)
              have hst2 : newStep es key a b c (q, y) e = if lat e y = true then (p, e) else (q, y) := by
                rw [hst1]
                by_cases hl : lat e y = true
                · rw [if_pos hl, if_pos (Or.inr hl)]
                · rw [if_neg hl, if_neg (fun h => h.elim hq hl)]
              clear hst1
              generalize lat e y = l at *
              have HST2 := Lib.hid hst2
              clear hst2
              obtain ⟨d0, d1, d2, d3, d4, d5, d6⟩ := Ent.cells HEB2.out
              obtain ⟨f0, f1, f2, f3, f4, f5, f6⟩ := Ent.cells HBB2.out
              go_wp2_with fail
              refine (HLT.out _).mono ?_
              rintro u3 w3 ⟨rfl, g3⟩
              have G3 := Lib.hid (G2.out.trans g3)
              have HEB3 : Hid (w3.heap[wr.heap.size]? = some (.cells e.v.toArray 52 (0, 0))) := (g3.below.block _ (blk_lt' HEB2.out)).trans HEB2.out
              have HBB3 : Hid (w3.heap[w.heap.size + 1 + 1]? = some (.cells y.v.toArray 52 (0, 0))) := (g3.below.block _ (blk_lt' HBB2.out)).trans HBB2.out
              cases l with
              | true =>
                go_wp2_with (first | (with_reducible refine wpList_load_row rfl 52 _ rfl wr.heap.size rfl 52 e.v.toArray (0, 0) _ HEB3.out Try.underlying52 rfl (info52a e) ?_) | ((with_reducible refine wpList_store_row rfl 52 _ _ rfl (w.heap.size + 1 + 1) e.v.toArray rfl rfl 52 y.v.toArray HBB3.out (info52a e) ?_ e.one ?_); · rfl))
                have HFIN := Lib.hid (HUPD.out w3 G3.out HBB3.out)
                go_roundw
                case rel => exact ⟨i + 1, p, e, hlt, rfl, by go_num, (by show _ = _; rw [HT.out, HST2.out]; rfl), HFIN.out.2, HFIN.out.1⟩
                case measure => simp [intOf]; omega
              | false =>
                have HFIN := Lib.hid (HSKIP.out _ G3.out (by rw [HST2.out]; rfl))
                go_wp2
                go_roundw
                case rel => exact ⟨i + 1, q, y, hlt, rfl, by go_num, HFIN.out.1, HFIN.out.2⟩
                case measure => simp [intOf]; omega
      · have ho' := bne_iff_ne.2 ho
        have hst : newStep es key a b c (q, y) e = (q, y) := by simp [newStep, ho]
        have hfin := HSKIP.out _ GE.out hst
        have HFIN := Lib.hid hfin
        clear hst hfin ho
        go_wp2_with (first | (with_reducible refine wpList_load_mid rfl 52 _ rfl g (off + i * 7) rfl e.v _ HE.out Try.underlying52 rfl (info52l e) ?_) | ((with_reducible refine wpList_store_last rfl 52 _ _ rfl e.v.toArray 52 _ rfl rfl (info52a e) ?_ e.one ?_); · rfl))
        go_roundw
        case rel => exact ⟨i + 1, q, y, hlt, rfl, by go_num, HFIN.out.1, HFIN.out.2⟩
        case measure => simp [intOf]; omega
    · have hi' : i = cs.length := by have := HN2.out; omega
      have htk : cs.take i = cs := by rw [hi', List.take_length]
      rw [htk] at HF
      clear htk hi'
      go_wp2
      go_ret
      exact ⟨by rw [← HF.out]; rfl, HG0.out.trans HH.out.2⟩
end Go.Proofs.Ytnojphaipfmiiaa
