/- twin: the same lists in rows of its own. -/
import Derived.Test.YtnojphaipfmiiaaTexts
import Derived.Deep.DeepCutAuto
import Derived.Deep.CutBlock
import Derived.Deep.CutRange
namespace Go.Proofs.Ytnojphaipfmiiaa
open Go.Proofs Go.Shelf Go.RowKit Go.Lib
set_option linter.unusedVariables false
set_option linter.unusedSimpArgs false
theorem grown_refl (w : World) (row : Option Nat) : w.grownBy w row := ⟨rfl, rfl, rfl, Nat.le_refl _, fun _ _ _ => rfl⟩
/-- append([]T{}, xs...), the empty row being of the call's own. -/
theorem wpList_clone {α : Type} {enc : α → List Value} {w : World} {ops : Array Oper} {rest : List Oper} {o : Oper} {a : Act} {Q : Exit → Act → World → Prop} (hgd : o.guard = none) (s x : Operand) (t : TypeId)
    (ho : o.op = .call { callee := .builtin .append, args := #[s, x], argTypes := #[t, t] })
    (base : Nat) (e : TypeId) (i : TypeInfo) (z : Value) (size bytes : Nat) (ht : Try.prog.underlying t = some (.slice e)) (hi : Try.prog.info? e = some i) (hz : i.zero = some z)
    (hsize : i.size = size) (hby : i.bytes = bytes) (hzs : z.cells.size = size) (hsz : 0 < size)
    (g : Nat) (hs : a.eval s = .slice (some ⟨g, 0, none⟩) 0 0) (hown : w.ownsRow base e size (.slice (some ⟨g, 0, none⟩) 0 0) 0 []) (A : Option Addr) (c : Nat) (l : List α) (hx : a.eval x = .slice A l.length c)
    (h0 : A = none → l.length = 0 ∧ c = 0) (hk : ∀ x, (enc x).length = size) (h1 : ∀ x ∈ l, ∀ v ∈ enc x, v.oneCell' = true) (hr : RowAt enc size w A l) (h63 : l.length ≤ maxLen) (hbytes : l.length * bytes ≤ 140737488355328) (hbase : base ≤ w.heap.size)
    (h : ∀ v' w', w'.ownsRow base e size v' l.length (l.flatMap enc) → w.grownBy w' (some g) → wpList Try.prog ops Q rest (a.put o.dst v') w') : wpList Try.prog ops Q (o :: rest) a w := by
  cases A with
  | none =>
    obtain ⟨hl, rfl⟩ := h0 rfl
    obtain rfl := List.length_eq_zero_iff.1 hl
    exact wpList_append_own_none hgd s x t ho base e i size ht hi _ 0 [] hs hown hx (h _ w hown (grown_refl w _)) 
  | some ad =>
    refine wpList_append_own w hgd s x t ho base e i z size bytes ht hi hz hsize hby hzs hsz (.slice (some ⟨g, 0, none⟩) 0 0) 0 [] hs hown ad l.length c (l.flatMap enc) hx (flat_len hk l) (row_news hk hr) ?_ (by simpa using h63) (by simpa using hbytes) hbase ?_
    · intro u hu
      obtain ⟨y, hy, hy'⟩ := List.mem_flatMap.1 hu
      exact h1 y hy u hy'
    · intro v' w' hown' hg _
      rw [Nat.zero_add, List.nil_append] at hown'
      exact h v' w' hown' hg
theorem own_box {w : World} {base : Nat} {e : TypeId} {k n : Nat} {v : Value} {xs : List Value} (h : w.ownsRow base e k v n xs) : v.oneCell' = true := by
  obtain ⟨_, ⟨rfl, _⟩ | ⟨g, cap, cur, rfl, _⟩⟩ := h <;> rfl
theorem info69z : (Try.prog.info? 69).map (fun i => (i.zero, i.size, i.bytes)) = some (some (.agg #[.int .i64 0, .int .i64 0, .int .u32 0, .int .u32 0, .int .u32 0, .int .i64 0, .bool false, .bool false, .bool false, .string ⟨#[]⟩, .string ⟨#[]⟩, .string ⟨#[]⟩, .string ⟨#[]⟩, .int .i64 0, .int .i64 0, .int .u64 0, .int .u32 0, .int .u32 0, .slice none 0 0, .string ⟨#[]⟩]), 20, 184) := by kernel_rfl
theorem evt_one (x : Evt) (h : x.a.ps.oneCell' = true) : ∀ v ∈ x.l, v.oneCell' = true := by
  have := Evt.one x h
  rw [List.all_toArray, List.all_eq_true] at this
  exact this
theorem evt_len (x : Evt) : x.l.length = 20 := rfl

set_option maxHeartbeats 16000000 in
set_option maxRecDepth 100000 in
theorem twin_any (r : Rs) (es : List Evt) (cs : List Ent) (w : World) (hn : r.evn = es.length) (hn2 : r.cmn = cs.length) (hr : RowAt Evt.l 20 w r.evA es) (hr2 : RowAt Ent.v 7 w r.cmA cs)
    (h0 : r.evA = none → r.evn = 0 ∧ r.evc = 0) (h02 : r.cmA = none → r.cmn = 0 ∧ r.cmc = 0) (hone : ∀ x ∈ es, x.a.ps.oneCell' = true) (hm : es.length ≤ 1048576) (hm2 : cs.length ≤ 1048576) (hv1 : r.v.all (·.oneCell') = true) :
    Calls Try.prog 5 #[.agg r.v] w fun e w' => ∃ A c B d, e = .returned (.agg ({ r with evA := A, evc := c, cmA := B, cmc := d }).v) ∧ RowAt Evt.l 20 w' A es ∧ RowAt Ent.v 7 w' B cs ∧ w.grownBy w' none := by
  have HBX : Hid ((w.alloc (.cells r.v 31)).heap[w.heap.size]? = some (.cells r.v 31 (0, 0))) := heap_alloc_last w (.cells r.v 31)
  obtain ⟨st, r1, r2, sp, cap, park, win, evA, evn, evc, wt, cmA, cmn, cmc, sh, fl, sps⟩ := r
  simp only at hn hn2 hr hr2 h0 h02
  subst hn; subst hn2
  simp only [Rs.v]
  go_enter Try.func5, Try.ntmps5
  go_upto_region 1 with (fail)
  obtain ⟨w1, hw1⟩ : ∃ w1, (w.alloc (Obj.cells #[st, r1, r2, sp, cap, park, win, Value.slice evA es.length evc, wt, Value.slice cmA cs.length cmc, sh, fl, sps] 31)).alloc
    (Obj.cells #[Value.int IntKind.i64 0, Value.int IntKind.i64 0, Value.int IntKind.i64 0, Value.slice none 0 0, Value.int IntKind.i64 0, Value.int IntKind.i64 0, Value.int IntKind.u64 0, Value.slice none 0 0, Value.slice none 0 0, Value.slice none 0 0, Value.slice none 0 0, Value.int IntKind.i64 0, Value.int IntKind.i64 0] 31) = w1 := ⟨_, rfl⟩
  have hb0 : w1.heap[w.heap.size]? = some (.cells #[st, r1, r2, sp, cap, park, win, Value.slice evA es.length evc, wt, Value.slice cmA cs.length cmc, sh, fl, sps] 31 (0, 0)) := by rw [← hw1]; exact blk_alloc (heap_alloc_last _ _) _
  have hb1 : w1.heap[w.heap.size + 1]? = some (Obj.cells #[Value.int IntKind.i64 0, Value.int IntKind.i64 0, Value.int IntKind.i64 0, Value.slice none 0 0, Value.int IntKind.i64 0, Value.int IntKind.i64 0, Value.int IntKind.u64 0, Value.slice none 0 0, Value.slice none 0 0, Value.slice none 0 0, Value.slice none 0 0, Value.int IntKind.i64 0, Value.int IntKind.i64 0] 31 (0, 0)) := by
    have := heap_alloc_last (w.alloc (Obj.cells #[st, r1, r2, sp, cap, park, win, Value.slice evA es.length evc, wt, Value.slice cmA cs.length cmc, sh, fl, sps] 31)) (Obj.cells #[Value.int IntKind.i64 0, Value.int IntKind.i64 0, Value.int IntKind.i64 0, Value.slice none 0 0, Value.int IntKind.i64 0, Value.int IntKind.i64 0, Value.int IntKind.u64 0, Value.slice none 0 0, Value.slice none 0 0, Value.slice none 0 0, Value.slice none 0 0, Value.int IntKind.i64 0, Value.int IntKind.i64 0] 31)
    rw [← hw1]
    simpa using this
  have hg1 : w.grownBy w1 none := by rw [← hw1]; exact (World.grownBy_alloc _ _ none).trans (World.grownBy_alloc _ _ _)
  have hs1 : w1.heap.size = w.heap.size + 2 := by rw [← hw1]; simp
  rw [hw1]
  obtain ⟨rb, hrb⟩ : ∃ rb, w.heap.size = rb := ⟨_, rfl⟩
  have HG := Lib.hid (And.intro hg1 (And.intro hs1 (And.intro hb0 hb1)))
  rw [hrb] at HG ⊢
  have HRB := Lib.hid hrb
  have HR := Lib.hid (row_by hr hg1)
  have HR2 := Lib.hid hr2
  have H0 := Lib.hid (And.intro h0 h02)
  have HO : Hid (∀ x ∈ es, ∀ v ∈ x.l, v.oneCell' = true) := fun x hx => evt_one x (hone x hx)
  have HRA : Hid (RowAt Evt.l 20 (w1.alloc (.cells #[] 69)) evA es) := row_by HR.out (World.grownBy_alloc w1 _ none)
  clear hw1 hb0 hb1 hg1 hs1 hr hr2 h0 h02 hone HBX hrb
  obtain ⟨i0, hi, hz0, hz1, hz2⟩ := info_parts info69z
  obtain ⟨i1, hj, hy0, hy1, hy2⟩ := info_parts info52z
  have k7 : ∀ o, (w1.alloc o).cell? ⟨rb, 7, none⟩ = some (.slice evA es.length evc) := fun o => by
    rw [cell_of_row _ _ _ _ _ _ (blk_alloc HG.out.2.2.1 o)]; rfl
  have hown0 := own_none w1 69 20 w1.heap.size (Nat.le_refl _)
  have HQ : Hid (∀ (o : Obj) (w2 : World), (w1.alloc o).grownBy w2 (some w1.heap.size) → w2.cell? ⟨rb, 7, none⟩ = some (.slice evA es.length evc) ∧ w2.frozen? ⟨rb, 7, none⟩ = false ∧ w1.grownBy w2 none ∧ w2.heap[rb]? = w1.heap[rb]?) := fun o w2 hg => by
    have hlt : rb < w1.heap.size := by have := HG.out.2.1; omega
    have hb : w2.heap[rb]? = w1.heap[rb]? := (hg.block rb (by simp; omega) (by simp; omega)).trans ((World.grownBy_alloc w1 o none).block rb hlt (by simp))
    refine ⟨?_, ?_, (World.grownBy_alloc w1 o none).andThen hg (fun j hj => by injection hj with hj; exact Or.inl (by omega)), hb⟩
    · rw [cell_of_row _ _ _ _ _ _ (hb.trans HG.out.2.2.1)]; rfl
    · unfold World.frozen?
      rw [show (⟨rb, 7, none⟩ : Addr).block = rb from rfl, hb, HG.out.2.2.1]
      simp
  go_upto_region 2 with (first
    | (at_builtin; refine wpList_clone rfl (.tmp 3) (.tmp 5) 27 rfl w1.heap.size 69 i0 _ 20 184 Try.underlying27 hi hz0 hz1 hz2 rfl (by decide) w1.heap.size rfl hown0 evA evc es rfl H0.out.1 evt_len HO.out HRA.out (by unfold maxLen; omega) (by omega) (by simp) ?_; intro v1 w2 hown1 hg2; obtain ⟨A1, c1, rfl, hc1, hr1, _⟩ := rowAt_of_owns evt_len hown1; have hq := HQ.out _ w2 hg2; have q1 := hq.1; have q2 := hq.2.1)
    | fail)
  have hlt : rb < w1.heap.size := by have := HG.out.2.1; omega
  have hown3 := ownsRow_setCell_below hown1 (a := ⟨rb, 7, none⟩) hlt (.slice A1 es.length c1)
  obtain ⟨w3, hw3⟩ : ∃ w3, w2.setCell ⟨rb, 7, none⟩ (.slice A1 es.length c1) = w3 := ⟨_, rfl⟩
  have hb3 : w3.heap[rb]? = some (.cells #[st, r1, r2, sp, cap, park, win, .slice A1 es.length c1, wt, .slice cmA cs.length cmc, sh, fl, sps] 31 (0, 0)) := by
    rw [← hw3, heap_setCell_same w2 rb 7 _ 31 _ (hq.2.2.2.trans HG.out.2.2.1)]; rfl
  have hr13 : w3.heap[rb + 1]? = some (Obj.cells #[Value.int IntKind.i64 0, Value.int IntKind.i64 0, Value.int IntKind.i64 0, Value.slice none 0 0, Value.int IntKind.i64 0, Value.int IntKind.i64 0, Value.int IntKind.u64 0, Value.slice none 0 0, Value.slice none 0 0, Value.slice none 0 0, Value.slice none 0 0, Value.int IntKind.i64 0, Value.int IntKind.i64 0] 31 (0, 0)) := by
    rw [← hw3, Below.heap_setCell _ _ _ _ (show rb + 1 ≠ rb by omega)]
    exact (hq.2.2.1.block _ (by have := HG.out.2.1; omega) (by simp)).trans HG.out.2.2.2
  have hg3 : w.grownBy w3 none := by
    rw [← hw3]
    exact (HG.out.1.trans hq.2.2.1).andThen (grown_set w2 ⟨rb, 7, none⟩ _) (fun j hj => by injection hj with hj; exact Or.inl (by have := HRB.out; show w.heap.size ≤ j; rw [← hj]; show w.heap.size ≤ rb; omega))
  rw [hw3] at hown3 ⊢
  have hsz3 : rb + 1 < w3.heap.size := (Array.getElem?_eq_some_iff.1 hr13).1
  have hw13 : w1.heap.size ≤ w3.heap.size := by rw [← hw3]; have := hq.2.2.1.size; simpa using this
  have hg13 : w1.grownBy w3 (some rb) := by rw [← hw3]; exact hq.2.2.1.but _ |>.trans (grown_set w2 ⟨rb, 7, none⟩ _)
  have G3 := Lib.hid (And.intro hb3 (And.intro hr13 (And.intro hg3 (And.intro hsz3 (And.intro hw13 hown3)))))
  have HR3 : Hid (RowAt Ent.v 7 (w3.alloc (.cells #[] 52)) cmA cs) := row_by (row_by HR2.out hg3) (World.grownBy_alloc w3 _ none)
  clear hw3 hb3 hr13 hg3 hown3 hown1 hq hg2 hsz3 hw13 hg13 q1 q2 hr1 hc1
  have k9 : ∀ o, (w3.alloc o).cell? ⟨rb, 9, none⟩ = some (.slice cmA cs.length cmc) := fun o => by
    rw [cell_of_row _ _ _ _ _ _ (blk_alloc G3.out.1 o)]; rfl
  have hown0 := own_none w3 52 7 w3.heap.size (Nat.le_refl _)
  have HQ2 : Hid (∀ (o : Obj) (w4 : World), (w3.alloc o).grownBy w4 (some w3.heap.size) → w4.cell? ⟨rb, 9, none⟩ = some (.slice cmA cs.length cmc) ∧ w4.frozen? ⟨rb, 9, none⟩ = false ∧ w3.grownBy w4 none ∧ w4.heap[rb]? = w3.heap[rb]?) := fun o w4 hg => by
    have hlt : rb < w3.heap.size := by have := G3.out.2.2.2.1; omega
    have hb : w4.heap[rb]? = w3.heap[rb]? := (hg.block rb (by simp; omega) (by simp; omega)).trans ((World.grownBy_alloc w3 o none).block rb hlt (by simp))
    refine ⟨?_, ?_, (World.grownBy_alloc w3 o none).andThen hg (fun j hj => by injection hj with hj; exact Or.inl (by omega)), hb⟩
    · rw [cell_of_row _ _ _ _ _ _ (hb.trans G3.out.1)]; rfl
    · unfold World.frozen?
      rw [show (⟨rb, 9, none⟩ : Addr).block = rb from rfl, hb, G3.out.1]
      simp
  go_upto_region 3 with (first
    | (at_builtin; refine wpList_clone rfl (.tmp 8) (.tmp 10) 28 rfl w3.heap.size 52 i1 _ 7 40 Try.underlying28 hj hy0 hy1 hy2 rfl (by decide) w3.heap.size rfl hown0 cmA cmc cs rfl H0.out.2 ev_len (fun x _ => ev_one x) HR3.out (by unfold maxLen; omega) (by omega) (by simp) ?_; intro v1 w4 hown1 hg2; obtain ⟨A2, c2, rfl, hc1, hr1, _⟩ := rowAt_of_owns ev_len hown1; have hq := HQ2.out _ w4 hg2; have q1 := hq.1; have q2 := hq.2.1)
    | fail)
  have hlt : rb < w3.heap.size := by have := G3.out.2.2.2.1; omega
  have hown5 := ownsRow_setCell_below hown1 (a := ⟨rb, 9, none⟩) hlt (.slice A2 cs.length c2)
  obtain ⟨w5, hw5⟩ : ∃ w5, w4.setCell ⟨rb, 9, none⟩ (.slice A2 cs.length c2) = w5 := ⟨_, rfl⟩
  have hb5 : w5.heap[rb]? = some (.cells #[st, r1, r2, sp, cap, park, win, .slice A1 es.length c1, wt, .slice A2 cs.length c2, sh, fl, sps] 31 (0, 0)) := by
    rw [← hw5, heap_setCell_same w4 rb 9 _ 31 _ (hq.2.2.2.trans G3.out.1)]; rfl
  have hr15 : w5.heap[rb + 1]? = some (Obj.cells #[Value.int IntKind.i64 0, Value.int IntKind.i64 0, Value.int IntKind.i64 0, Value.slice none 0 0, Value.int IntKind.i64 0, Value.int IntKind.i64 0, Value.int IntKind.u64 0, Value.slice none 0 0, Value.slice none 0 0, Value.slice none 0 0, Value.slice none 0 0, Value.int IntKind.i64 0, Value.int IntKind.i64 0] 31 (0, 0)) := by
    rw [← hw5, Below.heap_setCell _ _ _ _ (show rb + 1 ≠ rb by omega)]
    exact (hq.2.2.1.block _ G3.out.2.2.2.1 (by simp)).trans G3.out.2.1
  have hgs := grown_set w4 ⟨rb, 9, none⟩ (.slice A2 cs.length c2)
  rw [hw5] at hgs hown5 ⊢
  have hg5 : w.grownBy w5 none := (G3.out.2.2.1.trans hq.2.2.1).andThen hgs (fun j hj => by injection hj with hj; exact Or.inl (by have := HRB.out; show w.heap.size ≤ j; rw [← hj]; show w.heap.size ≤ rb; omega))
  have hown35 : w5.ownsRow w1.heap.size 69 20 (.slice A1 es.length c1) es.length (es.flatMap Evt.l) := own_kept (G3.out.2.2.2.2.2.kept hq.2.2.1 (Classical.em _)) hgs (by have := HG.out.2.1; show rb < w1.heap.size; omega)
  have HS3 := Lib.hid (And.intro G3.out.2.2.2.1 HG.out.2.1)
  have G5 := Lib.hid (And.intro (show w5.heap[rb]? = some (.cells (Rs.v ⟨st, r1, r2, sp, cap, park, win, A1, es.length, c1, wt, A2, cs.length, c2, sh, fl, sps⟩) 31 (0, 0)) from hb5) (And.intro hr15 (And.intro hg5 (And.intro hown5 hown35))))
  clear hw5 hb5 hr15 hg5 hown5 hown35 hgs hown1 hq hg2 q1 q2 hr1 hc1 G3 HQ2 HQ HR3 HR2 HO HRA k7 k9 hown0
  have hv2 : (Rs.v ⟨st, r1, r2, sp, cap, park, win, A1, es.length, c1, wt, A2, cs.length, c2, sh, fl, sps⟩).all (·.oneCell') = true := by
    simp only [Rs.v, List.all_toArray] at hv1 ⊢
    simp only [List.all_cons, List.all_nil, Value.oneCell', Bool.and_true, Bool.true_and] at hv1 ⊢
    exact hv1
  have HV := Lib.hid hv2
  clear hv1 hv2
  generalize hR : (⟨st, r1, r2, sp, cap, park, win, A1, es.length, c1, wt, A2, cs.length, c2, sh, fl, sps⟩ : Rs) = R at G5 HV
  have HRR := Lib.hid hR
  clear hR
  go_wp2_with (first
    | (with_reducible refine wpList_load_row rfl 31 _ rfl rb rfl 31 R.v (0, 0) _ G5.out.1 Try.underlying31 rfl (info31a R) ?_)
    | ((refine wpList_store_row rfl 31 (.tmp 2) (.tmp 13) rfl (rb + 1) R.v rfl rfl 31 _ G5.out.2.1 (info31a R) ?_ HV.out ?_); · rfl)
    | fail)
  obtain ⟨w6, hw6⟩ : ∃ w6, w5.setRow (rb + 1) R.v = w6 := ⟨_, rfl⟩
  have hb6 : w6.heap[rb + 1]? = some (.cells R.v 31 (0, 0)) := by rw [← hw6]; exact setRow_heap _ _ _ _ _ _ G5.out.2.1
  have fc := Rs.cells hb6
  rw [hw6]
  refine bodyPost_ret (v := .agg R.v) (results_cell_row rfl _ _ (rb + 1) 31 R.v (0, 0) _ rfl hb6 Try.underlying31 rfl (info31a R)) rfl ?_
  have hs6 : w5.grownBy w6 (some (rb + 1)) := by
    rw [← hw6]
    refine ⟨rfl, rfl, rfl, by simp [World.setRow], fun k hk hne => ?_⟩
    have hne' : k ≠ rb + 1 := fun e => hne (by rw [e])
    simp only [World.setRow, Array.getElem?_modify]
    rw [if_neg (fun e => hne' e.symm)]
  have o1 := own_kept G5.out.2.2.2.2 hs6 (by have := HS3.out.2; omega)
  have o2 := own_kept G5.out.2.2.2.1 hs6 HS3.out.1
  obtain ⟨B1, d1, hv1, -, g1, -⟩ := rowAt_of_owns evt_len o1
  obtain ⟨B2, d2, hv2, -, g2, -⟩ := rowAt_of_owns ev_len o2
  cases hv1
  cases hv2
  have hby : w.grownBy w6 none := G5.out.2.2.1.andThen hs6 (fun j hj => by injection hj with hj; exact Or.inl (by have := HRB.out; omega))
  exact ⟨A1, c1, A2, c2, by rw [← HRR.out]; rfl, g1, g2, hby⟩
end Go.Proofs.Ytnojphaipfmiiaa
