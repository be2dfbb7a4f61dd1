/- read: the commits in order and the writes. -/
import Derived.Test.YtnojphaipfmiiaaMapped2
import Derived.Deep.DeepCutAuto
import Derived.Deep.CutBlock
import Derived.Deep.CutRange
import Derived.StillTailTactics
import Derived.Deep.RegionHeld3
import Derived.Deep.RegionLaw
import Derived.Deep.AppendLies
namespace Go.Proofs.Ytnojphaipfmiiaa
open Go.Proofs Go.Shelf Go.RowKit Go.Lib
open Go.ChangeMaps (setBlock heap_setBlock_same heap_setBlock_other)
set_option linter.unusedVariables false
set_option linter.unusedSimpArgs false
theorem RD.start (w : World) (o : Array Value) (o2 : Array Value) (ev em : Value) (h7 : o[7]? = some ev) (h9 : o[9]? = some em) (h13 : o2[13]? = some (.slice none 0 0)) (h14 : o2[14]? = some (.map (some (w.heap.size + 1)))) (h15 : o2[15]? = some (.map (some (w.heap.size + 1 + 1)))) :
    RD w w.heap.size (w.heap.size + 1) (w.heap.size + 1 + 1) (w.heap.size + 1 + 1 + 1) ev em ((((w.alloc (Obj.cells o 31)).alloc (Obj.map #[] 0)).alloc (Obj.map #[] 0)).alloc (Obj.cells o2 85)) (.slice none 0 0) (OwnO (w.heap.size + 1 + 1 + 1) (.slice none 0 0) []) (fun _ => none) (fun _ => none) (fun _ _ => none) := by
  have b0 : ((((w.alloc (Obj.cells o 31)).alloc (Obj.map #[] 0)).alloc (Obj.map #[] 0)).alloc (Obj.cells o2 85)).heap[w.heap.size]? = some (.cells o 31 (0, 0)) := blk_alloc (blk_alloc (blk_alloc (heap_alloc_last _ _) _) _) _
  have b3 : ((((w.alloc (Obj.cells o 31)).alloc (Obj.map #[] 0)).alloc (Obj.map #[] 0)).alloc (Obj.cells o2 85)).heap[w.heap.size + 1 + 1 + 1]? = some (.cells o2 85 (0, 0)) := heap_fourth _ _ _ _ _
  have s1 : (w.alloc (Obj.cells o 31)).heap.size = w.heap.size + 1 := by simp
  have s2 : ((w.alloc (Obj.cells o 31)).alloc (Obj.map #[] 0)).heap.size = w.heap.size + 1 + 1 := by simp
  have m1 : MapIs txv stv ((w.alloc (Obj.cells o 31)).alloc (Obj.map #[] 0)) (w.heap.size + 1) (fun _ => none) := by have := MapIs.made txv stv (w.alloc (Obj.cells o 31)); rwa [s1] at this
  have m2 : MapIs txv mapv (((w.alloc (Obj.cells o 31)).alloc (Obj.map #[] 0)).alloc (Obj.map #[] 0)) (w.heap.size + 1 + 1) (fun _ => none) := by have := MapIs.made txv mapv ((w.alloc (Obj.cells o 31)).alloc (Obj.map #[] 0)); rwa [s2] at this
  refine ⟨⟨rfl, rfl, rfl, rfl⟩, (((World.grownBy_alloc _ _ none).trans (World.grownBy_alloc _ _ _)).trans (World.grownBy_alloc _ _ _)).trans (World.grownBy_alloc _ _ _), by simp, ?_, ?_, ?_, ?_, ?_, ?_, ⟨rfl, Or.inl ⟨rfl, rfl⟩⟩, fun a b row hg hne ho => World.ownsRow.kept ho hg hne, fun j hj => by simp [Value.ownBlock] at hj, ?_, ?_, fun _ _ _ => rfl, fun _ _ h => by simp at h, fun _ _ _ h => by simp at h⟩
  · rw [cell_of_row _ _ _ _ _ _ b0]; exact h7
  · rw [cell_of_row _ _ _ _ _ _ b0]; exact h9
  · rw [cell_of_row _ _ _ _ _ _ b3]; exact h13
  · unfold World.frozen?
    rw [show (⟨w.heap.size + 1 + 1 + 1, 13, none⟩ : Addr).block = w.heap.size + 1 + 1 + 1 from rfl, b3]
    simp
  · rw [cell_of_row _ _ _ _ _ _ b3]; exact h14
  · rw [cell_of_row _ _ _ _ _ _ b3]; exact h15
  · exact (m1.kept (World.grownBy_alloc _ _ none) (by simp)).kept (World.grownBy_alloc _ _ none) (by simp)
  · exact m2.kept (World.grownBy_alloc _ _ none) (by simp)

theorem info52z : (Try.prog.info? 52).map (fun i => (i.zero, i.size, i.bytes)) = some (some (.agg #[.int .u32 0, .int .u32 0, .int .u32 0, .int .i64 0, .int .u64 0, .int .u32 0, .int .u32 0]), 7, 40) := by kernel_rfl
theorem own_push {w w' : World} {o : Obj} {base : Nat} {e : TypeId} {k : Nat} {v : Value} {n : Nat} {xs : List Value} (h : w.ownsRow base e k v n xs) (he : w'.heap = w.heap.push o) : w'.ownsRow base e k v n xs := by
  have := h.alloc o
  unfold World.ownsRow at this ⊢
  rw [he]; exact this
theorem own_lt {w : World} {base : Nat} {e : TypeId} {k : Nat} {v : Value} {n : Nat} {xs : List Value} (h : w.ownsRow base e k v n xs) {j : Nat} (hj : v.ownBlock = some j) : j < w.heap.size := by
  obtain ⟨_, ⟨rfl, h0⟩ | ⟨g, cap, cur, rfl, hb, hg, _⟩⟩ := h
  · simp [Value.ownBlock] at hj
  · simp [Value.ownBlock] at hj; subst hj; exact (Array.getElem?_eq_some_iff.1 hg).1
theorem info69 : (Try.prog.info? 69).map (·.size) = some 20 := by kernel_rfl
theorem info69l (x : Evt) : (Try.prog.info? 69).map (·.size) = some x.l.length := info69
theorem info69a (x : Evt) : (Try.prog.info? 69).map (·.size) = some x.l.toArray.size := info69
theorem Evt.one (x : Evt) (h : x.a.ps.oneCell' = true) : x.l.toArray.all (·.oneCell') = true := by
  simp only [Evt.l, Ans.l, List.all_toArray]
  simp only [List.all_cons, h, List.all_nil]
  rfl
theorem eq_nil (q : Option Nat) (W : World) : (binOp BinOp.eql 71 (.map q) (.map none)).run Try.prog W = .ok (.bool q.isNone) W := by
  cases q with
  | none => kernel_rfl
  | some n => kernel_rfl
def comF (cs : List Ent) : List Ent := cs.filter fun e => decide (e.o = 1)
theorem comF_snoc (cs : List Ent) (e : Ent) : comF (cs ++ [e]) = if e.o = 1 then comF cs ++ [e] else comF cs := by
  by_cases h : e.o = 1 <;> simp [comF, h]
def stepH (G : Hist) (a : Ans) : Hist := if isW a = true then (fun t => if t = (a.t1, a.t2) then upd (G (a.t1, a.t2)) a.key (wof a) else G t) else G
def histF (es : List Evt) : Hist := es.foldl (fun G x => stepH G x.a) (fun _ _ => none)
theorem histF_snoc (es : List Evt) (x : Evt) : histF (es ++ [x]) = stepH (histF es) x.a := by simp [histF]

set_option maxHeartbeats 16000000 in
set_option maxRecDepth 100000 in
theorem read_any (r : Rs) (es : List Evt) (cs : List Ent) (w : World) (hn : r.evn = es.length) (hn2 : r.cmn = cs.length) (hr : RowAt Evt.l 20 w r.evA es) (hr2 : RowAt Ent.v 7 w r.cmA cs)
    (hone : ∀ x ∈ es, x.a.ps.oneCell' = true) (hm : es.length < Big) (hm2 : cs.length < Big) :
    Calls Try.prog 20 #[.agg r.v] w fun e w' => ∃ hb A c l wb F, e = .returned (.pointer (some ⟨hb, 0, none⟩)) ∧ HistAt w' hb A c l wb F (histF es) ∧ w.grownBy w' none ∧ l.length ≤ cs.length ∧
      (∀ x, x ∈ l ↔ x ∈ cs ∧ x.o = 1) ∧ l.Pairwise (fun x y => ¬ elt y x) := by
  have hbig := Big_eq
  have hmix := mixed
  have hmm := @run_makeMap Try.prog
  have HR := Go.Lib.hid hr
  have HR2 := Go.Lib.hid hr2
  have HO := Go.Lib.hid hone
  clear hr hr2 hone
  obtain ⟨st, r1, r2, sp, cap, park, win, evA, evn, evc, wt, cmA, cmn, cmc, sh, fl, sps⟩ := r
  simp only at hn hn2 HR HR2
  subst hn; subst hn2
  simp only [Rs.v]
  go_enter Try.func20, Try.ntmps20
  go_upto_region 2 with (fail)
  obtain ⟨w1, hw1⟩ : ∃ w1, (((w.alloc (Obj.cells #[st, r1, r2, sp, cap, park, win, Value.slice evA es.length evc, wt, Value.slice cmA cs.length cmc, sh, fl, sps] 31)).alloc (Obj.map #[] 0)).alloc (Obj.map #[] 0)).alloc
    (Obj.cells #[st, r1, r2, sp, cap, park, win, Value.slice evA es.length evc, wt, Value.slice cmA cs.length cmc, sh, fl, sps, Value.slice none 0 0, Value.map (some (w.heap.size + 1)), Value.map (some (w.heap.size + 1 + 1))] 85) = w1 := ⟨_, rfl⟩
  rw [hw1]
  generalize hag : Value.agg #[st, r1, r2, sp, cap, park, win, Value.slice evA es.length evc, wt, Value.slice cmA cs.length cmc, sh, fl, sps] = ag
  generalize hag2 : Value.agg #[st, r1, r2, sp, cap, park, win, Value.slice evA es.length evc, wt, Value.slice cmA cs.length cmc, sh, fl, sps, Value.slice none 0 0, Value.map (some (w.heap.size + 1)), Value.map (some (w.heap.size + 1 + 1))] = ag2
  have HRD : Hid (RD w w.heap.size (w.heap.size + 1) (w.heap.size + 1 + 1) (w.heap.size + 1 + 1 + 1) (.slice evA es.length evc) (.slice cmA cs.length cmc) w1 (.slice none 0 0) (OwnO (w.heap.size + 1 + 1 + 1) (.slice none 0 0) (comF [])) (fun _ => none) (fun _ => none) (histF [])) := by
    show RD _ _ _ _ _ _ _ _ _ _ _ _ _
    rw [← hw1]
    exact RD.start w _ _ _ _ rfl rfl rfl rfl rfl
  clear hag hag2 hw1 hmm
  obtain ⟨rb, hrb⟩ : ∃ rb, w.heap.size = rb := ⟨_, rfl⟩
  obtain ⟨ma, hma⟩ : ∃ ma, w.heap.size + 1 = ma := ⟨_, rfl⟩
  obtain ⟨mw, hmw⟩ : ∃ mw, w.heap.size + 1 + 1 = mw := ⟨_, rfl⟩
  obtain ⟨hb, hhb⟩ : ∃ hb, w.heap.size + 1 + 1 + 1 = hb := ⟨_, rfl⟩
  rw [hhb, hmw, hma, hrb] at HRD ⊢
  clear hrb hma hmw hhb
  have e9 := HRD.out.e9
  go_wp2
  clear e9
  obtain ⟨em, hem⟩ : ∃ em, Value.slice cmA cs.length cmc = em := ⟨_, rfl⟩
  rw [hem] at HRD
  clear hem
  go_loopw [17] (fun s17 wr => ∃ (i : Nat) (v : Value) (fA : Int × Int → Option (Int × Int × Int)), s17 = .int .i64 i ∧ i ≤ cs.length ∧ Aside (RD w rb ma mw hb (.slice evA es.length evc) em wr v (OwnO hb v (comF (cs.take i))) fA (fun _ => none) (histF []))) (fun s17 _ => cs.length - (intOf s17).toNat)
  case atStart => exact ⟨0, _, _, rfl, Nat.zero_le _, HRD.out⟩
  case round =>
    obtain ⟨i, v, fA, rfl, hil, HH⟩ := hrel
    have hi64 : i < 1099511627777 := by omega
    clear HRD
    by_cases hlt : i < cs.length
    · have hlti : (i : Int) < (cs.length : Int) := by omega
      obtain ⟨e, he⟩ : ∃ e, cs[i]? = some e := ⟨cs[i]'hlt, by simp⟩
      have htk : comF (cs.take (i + 1)) = if e.o = 1 then comF (cs.take i) ++ [e] else comF (cs.take i) := by rw [List.take_add_one, he]; exact comF_snoc _ _
      have hlen : (comF (cs.take i)).length ≤ i := by
        have := List.length_filter_le (fun e => decide (e.o = 1)) (cs.take i)
        rw [List.length_take] at this
        exact Nat.le_trans this (Nat.min_le_left _ _)
      obtain ⟨g, off, hA, hrow⟩ := row_by HR2.out HH.out.by0 i e he
      have c0 : wr.cell? ⟨g, off + i * 7, none⟩ = some (.int .u32 e.c) := hrow 0 _ rfl
      have c1 : wr.cell? ⟨g, off + i * 7 + 1, none⟩ = some (.int .u32 e.s) := hrow 1 _ rfl
      have c2 : wr.cell? ⟨g, off + i * 7 + 2, none⟩ = some (.int .u32 e.h) := hrow 2 _ rfl
      have c3 : wr.cell? ⟨g, off + i * 7 + 3, none⟩ = some (.int .i64 e.o) := hrow 3 _ rfl
      have c4 : wr.cell? ⟨g, off + i * 7 + 4, none⟩ = some (.int .u64 e.w) := hrow 4 _ rfl
      have c5 : wr.cell? ⟨g, off + i * 7 + 5, none⟩ = some (.int .u32 e.l) := hrow 5 _ rfl
      have c6 : wr.cell? ⟨g, off + i * 7 + 6, none⟩ = some (.int .u32 e.n) := hrow 6 _ rfl
      subst hA
      have HTK := Go.Lib.hid htk
      clear htk he hrow
      go_upto_region 5 with (fail)
      obtain ⟨w2, hw2⟩ : ∃ w2, wr.alloc (.cells #[.int .u32 e.c, .int .u32 e.s, .int .u32 e.h, .int .i64 e.o, .int .u64 e.w, .int .u32 e.l, .int .u32 e.n] 52) = w2 := ⟨_, rfl⟩
      have hb2 : w2.heap[wr.heap.size]? = some (.cells e.v.toArray 52 (0, 0)) := by rw [← hw2]; exact heap_alloc_last _ _
      have hg2 : wr.grownBy w2 none := by rw [← hw2]; exact World.grownBy_alloc _ _ _
      rw [hw2]
      have H2 := Go.Lib.hid (And.intro (HH.out.kept hg2) hb2)
      have HNB : Hid (v.ownBlock ≠ some wr.heap.size) := fun h => by have := own_lt HH.out.own h; omega
      have hsz : hb < wr.heap.size := HH.out.size
      obtain ⟨bx, hbx⟩ : ∃ bx, wr.heap.size = bx := ⟨_, rfl⟩
      rw [hbx] at H2 HNB hsz ⊢
      clear hw2 hg2 hb2 c0 c1 c2 c3 c4 c5 c6 HH hbx
      have d3 : w2.cell? ⟨bx, 3, none⟩ = some (.int .i64 e.o) := by rw [cell_of_row _ _ _ _ _ _ H2.out.2]; rfl
      by_cases ho : e.o = 1
      · have ho' := beq_iff_eq.2 ho
        rw [if_pos ho] at HTK
        have HO1 := Go.Lib.hid ho
        clear ho
        go_upto_region 6 with (fail)
        go_cut [17] from 17 to 42 (fun s17 wx => s17 = .int .i64 i ∧ ∃ v', Aside (RD w rb ma mw hb (.slice evA es.length evc) em wx v' (OwnO hb v' (comF (cs.take i) ++ [e])) fA (fun _ => none) (histF []) ∧ wx.heap[bx]? = some (.cells e.v.toArray 52 (0, 0))))
        case first =>
          have d0 : w2.cell? ⟨bx, 0, none⟩ = some (.int .u32 e.c) := by rw [cell_of_row _ _ _ _ _ _ H2.out.2]; rfl
          have d1 : w2.cell? ⟨bx, 1, none⟩ = some (.int .u32 e.s) := by rw [cell_of_row _ _ _ _ _ _ H2.out.2]; rfl
          have d2 : w2.cell? ⟨bx, 2, none⟩ = some (.int .u32 e.h) := by rw [cell_of_row _ _ _ _ _ _ H2.out.2]; rfl
          have d4 : w2.cell? ⟨bx, 4, none⟩ = some (.int .u64 e.w) := by rw [cell_of_row _ _ _ _ _ _ H2.out.2]; rfl
          have d5 : w2.cell? ⟨bx, 5, none⟩ = some (.int .u32 e.l) := by rw [cell_of_row _ _ _ _ _ _ H2.out.2]; rfl
          have d6 : w2.cell? ⟨bx, 6, none⟩ = some (.int .u32 e.n) := by rw [cell_of_row _ _ _ _ _ _ H2.out.2]; rfl
          have k13 := H2.out.1.c13
          have hown := H2.out.1.own
          have hsx : hb < w2.heap.size := H2.out.1.size
          obtain ⟨i0, hi, hz0, hz1, hz2⟩ := info_parts info52z
          have hc1 : (comF (cs.take i)).length + 1 ≤ maxLen := by unfold maxLen; omega
          have hc2 : ((comF (cs.take i)).length + 1) * 40 ≤ 140737488355328 := by omega
          have HQ : Hid (∀ (o : Obj) (w4 : World), (w2.alloc o).drew.grownBy w4 v.ownBlock → w4.cell? ⟨hb, 13, none⟩ = some v ∧ w4.frozen? ⟨hb, 13, none⟩ = false ∧ w2.grownBy w4 v.ownBlock) := fun o w4 hg => by
            have hgB : w2.grownBy w4 v.ownBlock := (World.grownBy_alloc w2 o v.ownBlock).trans ⟨hg.os, hg.tape, hg.output, hg.size, hg.block⟩
            refine ⟨cell_row hgB k13 (H2.out.1.own_far (Nat.le_refl _)), ?_, hgB⟩
            rw [World.frozen?_of_block (hgB.block hb hsx (fun h => H2.out.1.own_far (Nat.le_refl _) h.symm))]; exact H2.out.1.f13
          go_region_law (refine step_append_lies _ (by rfl) (.tmp 28) (.tmp 30) 28 (by rfl) (hb + 1) 52 i0 _ 7 40 Try.underlying28 hi hz0 hz1 hz2 (by rfl) (by omega) v (comF (cs.take i)).length ((comF (cs.take i)).flatMap Ent.v) (by rfl) (own_push hown rfl) ⟨w2.heap.size, 0, none⟩ 1 1 e.v (by rfl) (by rfl) (World.news_of_block (cs := e.v.toArray) (t := 52) (fr := (0, 0)) (heap_alloc_new w2 _)) (ev_one e) (by omega) hc1 hc2 (by simp; omega) (w2.heap.size + 1) (by simp) ?_; intro gg cap w4 hown4 hgrow hat hlt4; have hq := HQ.out _ w4 hgrow; have q1 := hq.1; have q2 := hq.2.1)
          all_goals go_wp2_with fail
          all_goals go_meet
          all_goals
            have hq := HQ.out _ w4 hgrow
            have hbx : w2.heap[bx]? = some (.cells e.v.toArray 52 (0, 0)) := H2.out.2
            have hbs : bx < w2.heap.size := (Array.getElem?_eq_some_iff.1 hbx).1
            refine ⟨rfl, _, H2.out.1.app (fun _ => rfl) hq.2.2 hown4, ?_⟩
            rw [Below.heap_setCell _ _ _ _ (show bx ≠ hb by omega), hq.2.2.block bx hbs (fun h => HNB.out h.symm)]
            exact hbx
        case rest =>
          obtain ⟨rfl, v', HB⟩ := hcut
          have d0 : wc.cell? ⟨bx, 0, none⟩ = some (.int .u32 e.c) := by rw [cell_of_row _ _ _ _ _ _ HB.out.2]; rfl
          have d1 : wc.cell? ⟨bx, 1, none⟩ = some (.int .u32 e.s) := by rw [cell_of_row _ _ _ _ _ _ HB.out.2]; rfl
          have d4 : wc.cell? ⟨bx, 4, none⟩ = some (.int .u64 e.w) := by rw [cell_of_row _ _ _ _ _ _ HB.out.2]; rfl
          have d5 : wc.cell? ⟨bx, 5, none⟩ = some (.int .u32 e.l) := by rw [cell_of_row _ _ _ _ _ _ HB.out.2]; rfl
          have d6 : wc.cell? ⟨bx, 6, none⟩ = some (.int .u32 e.n) := by rw [cell_of_row _ _ _ _ _ _ HB.out.2]; rfl
          have k14 := HB.out.1.c14
          clear d3 H2 HNB hlen
          go_upto_region 7 with (fail)
          go_still_tail 8, mixed
          change wpList _ _ _ _ _ wc.drew
          obtain ⟨w4, hw4⟩ : ∃ w4, wc.drew = w4 := ⟨_, rfl⟩
          have hg4 : wc.grownBy w4 none := by rw [← hw4]; exact ⟨rfl, rfl, rfl, Nat.le_refl _, fun _ _ _ => rfl⟩
          rw [hw4]
          have H4 := Go.Lib.hid (HB.out.1.kept hg4)
          clear hw4 hg4 d0 d1 d4 d5 d6 k14 HB
          have hat := H4.out.at'
          go_wp2_with (first | (at_mapUpdate; refine wpList_put rfl (.tmp 37) (.tmp 39) (.tmp 41) 82 rfl key_txn 34 Try.underlying82 ma fA (e.c, e.s) (e.w, e.l, e.n) hat rfl rfl rfl ?_; intro w5 hm5 hg5 hs5) | fail)
          have H5 := Go.Lib.hid (H4.out.put_at hg5 hm5)
          clear hm5 hg5 hs5 hat H4
          exact ⟨⟨i + 1, v', _, by go_num, hlt, by rw [HTK.out]; exact H5.out⟩, by simp [intOf]; omega⟩
      · have ho' := beq_eq_false_iff_ne.2 ho
        rw [if_neg ho] at HTK
        go_wp2
        go_roundw
        case rel => exact ⟨i + 1, v, fA, by go_num, hlt, by rw [HTK.out]; exact H2.out.1⟩
        case measure => simp [intOf]; omega
    · have k13 := HH.out.c13
      have hi : i = cs.length := by omega
      subst hi
      rw [List.take_length] at HH
      have hln : (comF cs).length ≤ cs.length := List.length_filter_le _ _
      go_wp2_with fail
      refine (sortEnts_row (comF cs) (hb + 1) v wr HH.out.own (by omega)).mono ?_
      rintro u1 w3 ⟨rfl, hby, A, c, l, hv, hc, hl, hmem, hsort, hrow⟩
      have HC : Hid (l.length ≤ cs.length ∧ (∀ x, x ∈ l ↔ x ∈ cs ∧ x.o = 1) ∧ l.Pairwise (fun x y => ¬ elt y x)) := ⟨by omega, fun x => by rw [hmem]; simp [comF], hsort⟩
      subst hv
      have HLT0 : Hid (∀ j, Value.ownBlock (.slice A (comF cs).length c) = some j → j < w3.heap.size) := fun j hj => by
        have h1 := own_lt HH.out.own hj
        have h2 := (hby _ (Or.inl rfl)).size
        omega
      have HS : Hid (RD w rb ma mw hb (.slice evA es.length evc) em w3 (.slice A (comF cs).length c) (RowO A l) fA (fun _ => none) (histF [])) := HH.out.sorted (fun _ => rfl) (hby _ (Or.inl rfl)) hrow
      clear hby hrow hsort hmem HH k13
      have e7 := HS.out.e7
      go_wp2
      clear e7
      obtain ⟨ev, hev⟩ : ∃ ev, Value.slice evA es.length evc = ev := ⟨_, rfl⟩
      rw [hev] at HS
      clear hev
      go_loopw [51] (fun s51 wr => ∃ (i : Nat) (F : Int × Int → Option Nat), s51 = .int .i64 i ∧ i ≤ es.length ∧ Aside (RD w rb ma mw hb ev em wr (.slice A (comF cs).length c) (RowO A l) fA F (histF (es.take i)) ∧ w3.heap.size ≤ wr.heap.size)) (fun s51 _ => es.length - (intOf s51).toNat)
      case atStart => exact ⟨0, _, rfl, Nat.zero_le _, HS.out, Nat.le_refl _⟩
      case round =>
        obtain ⟨i, F, rfl, hil, HH⟩ := hrel
        have hi64 : i < 1099511627777 := by omega
        clear HS
        by_cases hlt : i < es.length
        · have hlti : (i : Int) < (es.length : Int) := by omega
          obtain ⟨x, hx⟩ : ∃ x, es[i]? = some x := ⟨es[i]'hlt, by simp⟩
          have htk : histF (es.take (i + 1)) = stepH (histF (es.take i)) x.a := by rw [List.take_add_one, hx]; exact histF_snoc _ _
          obtain ⟨g, off, hA, hrow⟩ := row_by HR.out HH.out.1.by0 i x hx
          have HRW := Go.Lib.hid hrow
          have HTK := Go.Lib.hid htk
          have hox := HO.out x (List.mem_of_getElem? hx)
          subst hA
          clear htk hrow hx
          have HO1 := Go.Lib.hid (Evt.one x hox)
          go_upto_region 13 with (first | (with_reducible refine wpList_load_mid rfl 69 _ rfl g (off + i * 20) rfl x.l _ HRW.out Try.underlying69 rfl (info69l x) ?_) | ((with_reducible refine wpList_store_last rfl 69 _ _ rfl x.l.toArray 69 _ rfl rfl (info69a x) ?_ HO1.out ?_); · rfl) | fail)
          obtain ⟨w4, hw4⟩ : ∃ w4, wr.alloc (.cells x.l.toArray 69) = w4 := ⟨_, rfl⟩
          have hb4 : w4.heap[wr.heap.size]? = some (.cells x.l.toArray 69 (0, 0)) := by rw [← hw4]; exact heap_alloc_last _ _
          have hg4 : wr.grownBy w4 none := by rw [← hw4]; exact World.grownBy_alloc _ _ _
          rw [hw4]
          have hr4 : w4.rangeAt wr.heap.size 2 x.a.l := fun j u hu => by
            rw [cell_of_row _ _ _ _ _ _ hb4]
            show x.l.toArray[2 + j]? = some u
            rw [List.getElem?_toArray, Nat.add_comm]
            exact hu
          obtain ⟨bx, hbx⟩ : ∃ bx, wr.heap.size = bx := ⟨_, rfl⟩
          have H4 : Hid (RD w rb ma mw hb ev em w4 (.slice A (comF cs).length c) (RowO A l) fA F (histF (es.take i)) ∧ w3.heap.size ≤ w4.heap.size ∧ w4.heap[bx]? = some (.cells x.l.toArray 69 (0, 0))) := ⟨HH.out.1.kept hg4, Nat.le_trans HH.out.2 hg4.size, by rw [← hbx]; exact hb4⟩
          rw [hbx] at hr4 ⊢
          have HR4 := Go.Lib.hid hr4
          clear hw4 hb4 hg4 hbx hr4 HH HRW HO1 hox
          have HW := Go.Lib.hid (isWrite_any x.a w4)
          go_wp2_with (first | (with_reducible refine wpList_load_mid rfl 67 _ rfl bx 2 rfl x.a.l _ HR4.out Try.underlying67 rfl (info67l x.a) ?_) | fail)
          refine HW.out.mono ?_
          rintro u2 w5 ⟨rfl, hg5⟩
          have hg5' := hg5.by' none
          have H5 : Hid (RD w rb ma mw hb ev em w5 (.slice A (comF cs).length c) (RowO A l) fA F (histF (es.take i)) ∧ w3.heap.size ≤ w5.heap.size ∧ w5.heap[bx]? = some (.cells x.l.toArray 69 (0, 0))) :=
            ⟨H4.out.1.kept hg5', Nat.le_trans H4.out.2.1 hg5'.size, (hg5'.block _ (Array.getElem?_eq_some_iff.1 H4.out.2.2).1 (by simp)).trans H4.out.2.2⟩
          clear hg5 hg5' H4 HR4 HW
          cases hw : isW x.a with
          | false =>
            have hst : stepH (histF (es.take i)) x.a = histF (es.take i) := by simp [stepH, hw]
            rw [hst] at HTK
            clear hst hw
            go_wp2
            go_roundw
            case rel => exact ⟨i + 1, F, by go_num, hlt, by rw [HTK.out]; exact H5.out.1, H5.out.2.1⟩
            case measure => simp [intOf]; omega
          | true =>
            have hst : stepH (histF (es.take i)) x.a = (fun t => if t = (x.a.t1, x.a.t2) then upd (histF (es.take i) (x.a.t1, x.a.t2)) x.a.key (wof x.a) else histF (es.take i) t) := by simp [stepH, hw]
            rw [hst] at HTK
            clear hst hw
            have d3 : w5.cell? ⟨bx, 3, none⟩ = some (.int .u32 x.a.t1) := by rw [cell_of_row _ _ _ _ _ _ H5.out.2.2]; rfl
            have d4 : w5.cell? ⟨bx, 4, none⟩ = some (.int .u32 x.a.t2) := by rw [cell_of_row _ _ _ _ _ _ H5.out.2.2]; rfl
            have k15 := H5.out.1.c15
            obtain ⟨mv, hmv⟩ : ∃ mv, ((F (x.a.t1, x.a.t2)).map mapv).getD (.map none) = mv := ⟨_, rfl⟩
            have hl0 : (Instr.lookup 83 (.map (some mw)) (.agg #[.int .u32 x.a.t1, .int .u32 x.a.t2]) false).run Try.prog w5 = .ok mv w5 := by
              rw [← hmv]; exact H5.out.1.wm.lookup key_txn Try.underlying83 (Try.zeroValue71 w5) (x.a.t1, x.a.t2) false
            have hl1 : (Instr.lookup 83 (.map (some mw)) (.agg #[.int .u32 x.a.t1, .int .u32 x.a.t2]) false).run Try.prog w5.drew = .ok mv w5.drew := by
              rw [← hmv]; exact (H5.out.1.wm.of_block (w' := w5.drew) rfl).lookup key_txn Try.underlying83 (Try.zeroValue71 w5.drew) (x.a.t1, x.a.t2) false
            have HMV := Go.Lib.hid hmv
            clear hmv
            go_upto_region 14 with (fail)
            go_still_tail 8, mixed
            change wpList _ _ _ _ _ w5.drew
            obtain ⟨w6, hw6⟩ : ∃ w6, w5.drew = w6 := ⟨_, rfl⟩
            have hg6 : w5.grownBy w6 none := by rw [← hw6]; exact ⟨rfl, rfl, rfl, Nat.le_refl _, fun _ _ _ => rfl⟩
            rw [hw6]
            have H6 : Hid (RD w rb ma mw hb ev em w6 (.slice A (comF cs).length c) (RowO A l) fA F (histF (es.take i)) ∧ w3.heap.size ≤ w6.heap.size ∧ w6.heap[bx]? = some (.cells x.l.toArray 69 (0, 0))) :=
              ⟨H5.out.1.kept hg6, Nat.le_trans H5.out.2.1 hg6.size, (hg6.block _ (Array.getElem?_eq_some_iff.1 H5.out.2.2).1 (by simp)).trans H5.out.2.2⟩
            clear hw6 hg6 d3 d4 k15 hl0 hl1 H5
            obtain ⟨q, hq, hmq⟩ : ∃ q, F (x.a.t1, x.a.t2) = q ∧ mv = .map q := ⟨_, rfl, by rw [← HMV.out]; cases F (x.a.t1, x.a.t2) <;> rfl⟩
            subst hmq
            have HQ := Go.Lib.hid hq
            clear hq HMV
            have hen := eq_nil q
            go_upto_if 67 with (fail)
            clear hen
            go_cut [8, 51] from 51 to 86 (fun s8 s51 wx => s51 = .int .i64 i ∧ ∃ n F', s8 = .map (some n) ∧ Aside (F' (x.a.t1, x.a.t2) = some n ∧ RD w rb ma mw hb ev em wx (.slice A (comF cs).length c) (RowO A l) fA F' (histF (es.take i)) ∧ w3.heap.size ≤ wx.heap.size ∧ wx.heap[bx]? = some (.cells x.l.toArray 69 (0, 0))))
            case first =>
              cases q with
              | some n =>
                go_wp2
                go_meet
                exact ⟨rfl, n, F, rfl, HQ.out, H6.out⟩
              | none =>
                have hmm := @run_makeMap Try.prog
                go_upto_region 17 with (fail)
                obtain ⟨w7, hw7⟩ : ∃ w7, w6.alloc (.map #[] 0) = w7 := ⟨_, rfl⟩
                have hg7 : w6.grownBy w7 none := by rw [← hw7]; exact World.grownBy_alloc _ _ _
                have hm7 : MapIs Value.string wrV w7 w6.heap.size (fun _ => none) := by rw [← hw7]; exact MapIs.made _ _ _
                rw [hw7]
                have hbs := H6.out.1.size
                obtain ⟨n, hn⟩ : ∃ n, w6.heap.size = n := ⟨_, rfl⟩
                have hnew : ∀ t', F t' ≠ some n := fun t' h => by have := (H6.out.1.gs t' n h).2.2.lt; omega
                have hown : Value.ownBlock (.slice A (comF cs).length c) ≠ some n := fun h => by have := HLT0.out n h; have := H6.out.2.1; omega
                rw [hn] at hm7 hbs ⊢
                have H7 : Hid (RD w rb ma mw hb ev em w7 (.slice A (comF cs).length c) (RowO A l) fA F (histF (es.take i)) ∧ w3.heap.size ≤ w7.heap.size ∧ w7.heap[bx]? = some (.cells x.l.toArray 69 (0, 0)) ∧ MapIs Value.string wrV w7 n (fun _ => none) ∧ hb < n ∧ (∀ t', F t' ≠ some n) ∧ Value.ownBlock (.slice A (comF cs).length c) ≠ some n) :=
                  ⟨H6.out.1.kept hg7, Nat.le_trans H6.out.2.1 hg7.size, (hg7.block _ (Array.getElem?_eq_some_iff.1 H6.out.2.2).1 (by simp)).trans H6.out.2.2, hm7, hbs, hnew, hown⟩
                clear hw7 hg7 hm7 hn hnew hown hmm hbs
                have d3 : w7.cell? ⟨bx, 3, none⟩ = some (.int .u32 x.a.t1) := by rw [cell_of_row _ _ _ _ _ _ H7.out.2.2.1]; rfl
                have d4 : w7.cell? ⟨bx, 4, none⟩ = some (.int .u32 x.a.t2) := by rw [cell_of_row _ _ _ _ _ _ H7.out.2.2.1]; rfl
                have k15 := H7.out.1.c15
                go_still_tail 8, mixed
                change wpList _ _ _ _ _ w7.drew
                obtain ⟨w8, hw8⟩ : ∃ w8, w7.drew = w8 := ⟨_, rfl⟩
                have hg8 : w7.grownBy w8 none := by rw [← hw8]; exact ⟨rfl, rfl, rfl, Nat.le_refl _, fun _ _ _ => rfl⟩
                rw [hw8]
                have H8 : Hid (RD w rb ma mw hb ev em w8 (.slice A (comF cs).length c) (RowO A l) fA F (histF (es.take i)) ∧ w3.heap.size ≤ w8.heap.size ∧ w8.heap[bx]? = some (.cells x.l.toArray 69 (0, 0)) ∧ MapIs Value.string wrV w8 n (fun _ => none)) :=
                  ⟨H7.out.1.kept hg8, Nat.le_trans H7.out.2.1 hg8.size, (hg8.block _ (Array.getElem?_eq_some_iff.1 H7.out.2.2.1).1 (by simp)).trans H7.out.2.2.1, H7.out.2.2.2.1.kept hg8 (by simp)⟩
                clear hw8 hg8 d3 d4 k15
                have hwm := H8.out.1.wm
                go_wp2_with (first | (at_mapUpdate; refine wpList_put rfl (.tmp 72) (.tmp 75) (.tmp 76) 83 rfl key_txn 71 Try.underlying83 mw F (x.a.t1, x.a.t2) n hwm rfl rfl rfl ?_; intro w9 hm9 hg9 hs9) | fail)
                go_meet
                have hmn : mw < n := by have := H7.out.1.ord; have := H7.out.2.2.2.2.1; omega
                have hbm : bx ≠ mw := fun h => by
                  have h1 := H8.out.2.2.1
                  rw [h] at h1
                  obtain ⟨es1, cl1, h2, _⟩ := H8.out.1.wm
                  rw [h1] at h2; cases h2
                exact ⟨rfl, n, _, rfl, by simp [upd], H8.out.1.put_wm hg9 hm9 HQ.out H7.out.2.2.2.2.1 H7.out.2.2.2.2.2.2 (H8.out.2.2.2.kept hg9 (by simp; omega)) H7.out.2.2.2.2.2.1, by rw [hs9]; exact H8.out.2.1,
                  (hg9.block _ (Array.getElem?_eq_some_iff.1 H8.out.2.2.1).1 (by simp; exact hbm)).trans H8.out.2.2.1⟩
            case rest =>
              obtain ⟨rfl, n, F', rfl, HC⟩ := hcut
              clear H6 HQ
              have HU0 := HC.out.2.1.gs _ n HC.out.1
              obtain ⟨es1, cl1, HU⟩ := HU0.2.2.upd_eq key_str Try.underlying71 x.a.key (wof x.a)
              have k5 : wc.cell? ⟨bx, 5, none⟩ = some (.int .i64 x.a.k) := by rw [cell_of_row _ _ _ _ _ _ HC.out.2.2.2]; rfl
              have k6 : wc.cell? ⟨bx, 6, none⟩ = some (.bool x.a.b1) := by rw [cell_of_row _ _ _ _ _ _ HC.out.2.2.2]; rfl
              have k7 : wc.cell? ⟨bx, 7, none⟩ = some (.bool x.a.b2) := by rw [cell_of_row _ _ _ _ _ _ HC.out.2.2.2]; rfl
              have k8 : wc.cell? ⟨bx, 8, none⟩ = some (.bool x.a.b3) := by rw [cell_of_row _ _ _ _ _ _ HC.out.2.2.2]; rfl
              have k9 : wc.cell? ⟨bx, 9, none⟩ = some (.string x.a.tok) := by rw [cell_of_row _ _ _ _ _ _ HC.out.2.2.2]; rfl
              have k10 : wc.cell? ⟨bx, 10, none⟩ = some (.string x.a.key) := by rw [cell_of_row _ _ _ _ _ _ HC.out.2.2.2]; rfl
              have k11 : wc.cell? ⟨bx, 11, none⟩ = some (.string x.a.hi) := by rw [cell_of_row _ _ _ _ _ _ HC.out.2.2.2]; rfl
              have k12 : wc.cell? ⟨bx, 12, none⟩ = some (.string x.a.val) := by rw [cell_of_row _ _ _ _ _ _ HC.out.2.2.2]; rfl
              have k13 : wc.cell? ⟨bx, 13, none⟩ = some (.int .i64 x.a.lim) := by rw [cell_of_row _ _ _ _ _ _ HC.out.2.2.2]; rfl
              have HWO := Go.Lib.hid (writeOf_any x.a)
              have HUU : Hid (∀ y, wc.grownBy y none → y.cell? ⟨bx, 10, none⟩ = some (.string x.a.key) ∧ (Instr.mapUpdate 71 (.map (some n)) (.string x.a.key) (.agg (wrv (wof x.a)).toArray)).run Try.prog y = .ok () (setBlock y n (.map es1 cl1)) ∧
                  (Instr.mapUpdate 71 (.map (some n)) (.string x.a.key) (.agg (wrv (wof x.a)).toArray)).run Try.prog y.drew = .ok () (setBlock y.drew n (.map es1 cl1))) := fun y hg => by
                have hn := hg.block n HU0.2.2.lt (by simp)
                exact ⟨cell_by hg k10, (HU y hn).1, (HU y.drew hn).1⟩
              have HFIN : Hid (∀ y, wc.grownBy y none → (RD w rb ma mw hb ev em (setBlock y n (.map es1 cl1)) (.slice A (comF cs).length c) (RowO A l) fA F' (histF (es.take (i + 1))) ∧ w3.heap.size ≤ (setBlock y n (.map es1 cl1)).heap.size) ∧
                  (RD w rb ma mw hb ev em (setBlock y.drew n (.map es1 cl1)) (.slice A (comF cs).length c) (RowO A l) fA F' (histF (es.take (i + 1))) ∧ w3.heap.size ≤ (setBlock y.drew n (.map es1 cl1)).heap.size)) := by
                have key : ∀ y, wc.grownBy y none → (RD w rb ma mw hb ev em (setBlock y n (.map es1 cl1)) (.slice A (comF cs).length c) (RowO A l) fA F' (histF (es.take (i + 1))) ∧ w3.heap.size ≤ (setBlock y n (.map es1 cl1)).heap.size) := fun y hg => by
                  have hn := hg.block n HU0.2.2.lt (by simp)
                  obtain ⟨-, u1, u2⟩ := HU y hn
                  rw [HTK.out]
                  refine ⟨(HC.out.2.1.kept hg).put_in u2 HC.out.1 u1, ?_⟩
                  have h1 := u2.size; have h2 := hg.size; have h3 := HC.out.2.2.1
                  omega
                exact fun y hg => ⟨key y hg, key y.drew ⟨hg.os, hg.tape, hg.output, hg.size, hg.block⟩⟩
              clear HU HU0
              go_upto_region 18 with (fail)
              go_region_law (first
                | (go_simp; go_at_call 33; refine (HWO.out _).mono ?_; rintro e w8 ⟨rfl, g8⟩; have hg := (Gr.by' (Gr.trans (Gr.drew (Gr.refl wc)) g8) none); have hz := HFIN.out w8 hg; have hu := HUU.out w8 hg; have hu1 := hu.1; have hu2 := hu.2.1; have hu3 := hu.2.2; clear hu g8 hg)
                | (go_simp; go_at_call 33; refine (HWO.out _).mono ?_; rintro e w8 ⟨rfl, g8⟩; have hg := (Gr.by' g8 none); have hz := HFIN.out w8 hg; have hu := HUU.out w8 hg; have hu1 := hu.1; have hu2 := hu.2.1; have hu3 := hu.2.2; clear hu g8 hg))
              all_goals have HZ := Go.Lib.hid hz
              all_goals clear hz hu1 hu2 hu3 HUU HFIN HWO HC
              all_goals go_wp2
              all_goals go_roundw
              all_goals first
                | exact ⟨i + 1, F', by go_num, hlt, HZ.out.1⟩
                | exact ⟨i + 1, F', by go_num, hlt, HZ.out.2⟩
                | (simp [intOf]; omega)
        · go_wp2
          go_ret
          have hi : i = es.length := by omega
          rw [hi, List.take_length] at HH
          have h := HH.out.1
          have hl2 : l.length = (comF cs).length := hl
          exact ⟨hb, A, c, l, mw, F, rfl, ⟨by rw [hl2]; exact h.c13, h.own, h.c15, h.wm, h.gn, fun t j hj => (h.gs t j hj).2.2⟩, h.by0, HC.out⟩
end Go.Proofs.Ytnojphaipfmiiaa
