/- sameResult: a result and its twin. -/
import Derived.Test.YtnojphaipfmiiaaAlikeD
import Derived.Test.YtnojphaipfmiiaaOpen
import Derived.Deep.DeepCutAuto
import Derived.Deep.CutBlock
import Derived.Deep.CutRange
import Derived.Deep.QuietTactic
import Derived.BigQuiet
namespace Go.Proofs.Ytnojphaipfmiiaa
open Go.Proofs Go.Shelf Go.RowKit Go.Lib Go.Sort
set_option linter.unusedVariables false
set_option linter.unusedSimpArgs false
theorem part_row (w : World) (t : TypeId) (k off : Nat) (cs : Array Value) (fs : Array Field) (hu : Try.prog.underlying t = some (.struct fs)) (hi : (Try.prog.info? t).map (·.size) = some k) :
    (part t cs off).run Try.prog w = .ok (.agg (cs.extract off (off + k))) w := by
  cases hq : Try.prog.info? t with
  | none => simp [hq] at hi
  | some i =>
    have hs : i.size = k := by simpa [hq] using hi
    have hagg : (isAgg t).run Try.prog w = .ok true w := by
      unfold isAgg
      rw [Sem.run_bind, run_underlying hu w]
      simp
    unfold part
    simp [Sem.run_bind, hagg, sizeOf, typeInfo, hq, hs]
theorem info49 : (Try.prog.info? 49).map (·.size) = some 2 := by kernel_rfl
theorem info34' : (Try.prog.info? 34).map (·.size) = some 3 := by kernel_rfl
theorem eq52 (d : Nat) (w : World) (x : Ent) :
    (Op.equalIn (d + 3) 52 (.agg x.v.toArray) (.agg x.v.toArray)).run Try.prog w = .ok true w := by
  obtain ⟨c, s, h, o, wl, l, n, ok⟩ := x
  simp only [Ent.v]
  have h : (Op.equalIn (d + 3) 52 (.agg #[.int .u32 c, .int .u32 s, .int .u32 h, .int .i64 o, .int .u64 wl, .int .u32 l, .int .u32 n]) (.agg #[.int .u32 c, .int .u32 s, .int .u32 h, .int .i64 o, .int .u64 wl, .int .u32 l, .int .u32 n])).run Try.prog w = .ok (true && (true && (true && true))) w := by
    refine se_of Try.underlying52 (by kernel_rfl) ?_
    refine se_cons (by rfl) (part_row w 49 2 0 _ _ Try.underlying49 info49) (part_row w 49 2 0 _ _ Try.underlying49 info49) ((eq49 d w c s c s).trans (by simp)) ?_
    refine se_cons (by rfl) (by go_simp; rfl) (by go_simp; rfl) (by go_simp) ?_
    refine se_cons (by rfl) (by go_simp; rfl) (by go_simp; rfl) (by go_simp) ?_
    exact se_last (by rfl) (part_row w 34 3 4 _ _ Try.underlying34 info34') (part_row w 34 3 4 _ _ Try.underlying34 info34') ((eq34 d w wl l n wl l n).trans (by simp))
  exact h

theorem PairsAt.of {w : World} {A : Option Addr} {es : List Evt} {B : Nat} (h : EvsAt w A es B) (hB : B < Big) : PairsAt w es := fun x hx => by
  obtain ⟨P, n, ps, h1, h2, h3⟩ := h.2.2 x hx
  exact ⟨P, n, ps, h1, by omega, h3⟩
attribute [local go_sem high] eq52
set_option maxHeartbeats 8000000 in
set_option maxRecDepth 100000 in
theorem sameResult_any (r : Rs) (es ws : List Evt) (cs : List Ent) (A B : Option Addr) (c d N : Nat) (w : World) (h : ResAt w r es ws cs N) (hN : N < Big) (ha : RowAt Evt.l 20 w A es) (hb : RowAt Ent.v 7 w B cs) :
    Calls Try.prog 11 #[.agg r.v, .agg ({ r with evA := A, evc := c, cmA := B, cmc := d } : Rs).v] w fun e w' => e = .returned (.bool true) ∧ Gr w w' := by
  have hbig := Big_eq
  have hmix := mixed
  have hcl := h.cml
  have hb0 := blk_alloc (heap_alloc_last w (.cells r.v 31)) (.cells ({ r with evA := A, evc := c, cmA := B, cmc := d } : Rs).v 31)
  have hb1 := heap_alloc_last (w.alloc (.cells r.v 31)) (.cells ({ r with evA := A, evc := c, cmA := B, cmc := d } : Rs).v 31)
  obtain ⟨r2, hr2⟩ : ∃ r2 : Rs, { r with evA := A, evc := c, cmA := B, cmc := d } = r2 := ⟨_, rfl⟩
  obtain ⟨w1, hw1⟩ : ∃ w1, (w.alloc (.cells r.v 31)).alloc (.cells r2.v 31) = w1 := ⟨_, rfl⟩
  have g1 : Gr w w1 := by rw [← hw1]; exact ((Gr.refl w).alloc _).alloc _
  obtain ⟨rb, hrb⟩ : ∃ rb, w.heap.size = rb := ⟨_, rfl⟩
  rw [hr2, hw1] at hb0 hb1
  have hs1 : (w.alloc (.cells r.v 31)).heap.size = rb + 1 := by rw [← hrb]; simp
  rw [hs1] at hb1
  rw [hrb] at hb0
  obtain ⟨ks, est⟩ := h.st
  obtain ⟨kf, efl⟩ := h.fl
  obtain ⟨kp, esp⟩ := h.sps
  obtain ⟨SA, sn, sc, esh⟩ := h.sh
  obtain ⟨WA, wc, ewt, hwt⟩ := h.wt
  obtain ⟨CA, eca⟩ : ∃ CA, r.cmA = CA := ⟨_, rfl⟩
  obtain ⟨EA, eea⟩ : ∃ EA, r.evA = EA := ⟨_, rfl⟩
  have FC : Hid (∀ w2, Gr w1 w2 → (w2.cell? ⟨rb, 0, none⟩ = some (.int .i64 ks) ∧ w2.cell? ⟨rb, 7, none⟩ = some (.slice EA es.length r.evc) ∧ w2.cell? ⟨rb, 8, none⟩ = some (.slice WA ws.length wc) ∧ w2.cell? ⟨rb, 9, none⟩ = some (.slice CA cs.length r.cmc) ∧
      w2.cell? ⟨rb, 10, none⟩ = some (.slice SA sn sc) ∧ w2.cell? ⟨rb, 11, none⟩ = some (.int .i64 kf) ∧ w2.cell? ⟨rb, 12, none⟩ = some (.int .i64 kp)) ∧
      (w2.cell? ⟨rb + 1, 0, none⟩ = some (.int .i64 ks) ∧ w2.cell? ⟨rb + 1, 7, none⟩ = some (.slice A es.length c) ∧ w2.cell? ⟨rb + 1, 8, none⟩ = some (.slice WA ws.length wc) ∧ w2.cell? ⟨rb + 1, 9, none⟩ = some (.slice B cs.length d) ∧
      w2.cell? ⟨rb + 1, 10, none⟩ = some (.slice SA sn sc) ∧ w2.cell? ⟨rb + 1, 11, none⟩ = some (.int .i64 kf) ∧ w2.cell? ⟨rb + 1, 12, none⟩ = some (.int .i64 kp))) := fun w2 g => by
    have z1 := Rs.cells ((g.below.block rb (blk_lt' hb0)).trans hb0)
    have z2 := Rs.cells ((g.below.block (rb + 1) (blk_lt' hb1)).trans hb1)
    rw [← hr2] at z2
    simp only [est, efl, esp, esh, ewt, eca, eea, h.evn, h.cmn] at z1 z2
    exact ⟨⟨z1.1, z1.2.2.2.2.2.2.2.1, z1.2.2.2.2.2.2.2.2.1, z1.2.2.2.2.2.2.2.2.2.1, z1.2.2.2.2.2.2.2.2.2.2.1, z1.2.2.2.2.2.2.2.2.2.2.2.1, z1.2.2.2.2.2.2.2.2.2.2.2.2⟩,
      z2.1, z2.2.2.2.2.2.2.2.1, z2.2.2.2.2.2.2.2.2.1, z2.2.2.2.2.2.2.2.2.2.1, z2.2.2.2.2.2.2.2.2.2.2.1, z2.2.2.2.2.2.2.2.2.2.2.2.1, z2.2.2.2.2.2.2.2.2.2.2.2.2⟩
  have HE : Hid (∀ w2, Gr w1 w2 → Calls Try.prog 14 #[.slice EA es.length r.evc, .slice A es.length c] w2 fun e w' => e = .returned (.bool true) ∧ Gr w2 w') := fun w2 g => by
    have gg := (g1.trans g).below
    refine sameEvents_any _ _ _ _ es w2 (by have := h.ev.2.1; omega) ?_ (ha.below gg) ((PairsAt.of h.ev hN).below gg)
    rw [← eea]
    exact h.ev.1.below gg
  have HW : Hid (∀ w2, Gr w1 w2 → Calls Try.prog 14 #[.slice WA ws.length wc, .slice WA ws.length wc] w2 fun e w' => e = .returned (.bool true) ∧ Gr w2 w') := fun w2 g => by
    have gg := (g1.trans g).below
    exact sameEvents_any _ _ _ _ ws w2 (by have := hwt.2.1; omega) (hwt.1.below gg) (hwt.1.below gg) ((PairsAt.of hwt hN).below gg)
  have HC : Hid (RowAt Ent.v 7 w1 CA cs ∧ RowAt Ent.v 7 w1 B cs) := ⟨by rw [← eca]; exact h.cm.below g1.below, hb.below g1.below⟩
  have HR2 := Lib.hid (And.intro hr2 hw1)
  have HRB := Lib.hid (And.intro hrb g1)
  generalize r.evc = evc at FC HE
  generalize r.cmc = cmc at FC
  clear hr2 hw1 hrb g1 hb0 hb1 hs1 est efl esp esh ewt eca eea hwt h ha hb
  go_enter Try.func11, Try.ntmps11
  rw [HR2.out.1]
  go_upto_region 1 with (fail)
  rw [HR2.out.2, HRB.out.1]
  have F1 := FC.out w1 (Gr.refl _)
  obtain ⟨⟨a0, a7, a8, a9, a10, a11, a12⟩, b0, b7, b8, b9, b10, b11, b12⟩ := F1
  go_wp2
  clear a0 a7 a8 a9 a10 a11 a12 b0 b7 b8 b9 b10 b11 b12
  go_loopw [46, 5] (fun s46 _ wr => ∃ i : Nat, s46 = .int .i64 i ∧ i ≤ cs.length ∧ Hid (Gr w1 wr)) (fun s46 _ _ => cs.length - (intOf s46).toNat)
  case atStart => exact ⟨0, rfl, Nat.zero_le _, Gr.refl _⟩
  case round =>
    obtain ⟨i, rfl, hil, HG⟩ := hrel
    have hi64 : i < 1099511627777 := by omega
    by_cases hlt : i < cs.length
    · have hlti : (i : Int) < (cs.length : Int) := by omega
      obtain ⟨x, hx⟩ : ∃ x, cs[i]? = some x := ⟨cs[i]'hlt, by simp⟩
      obtain ⟨g, off, hA, -⟩ := HC.out.1 i x hx
      obtain ⟨g', off', hB, -⟩ := HC.out.2 i x hx
      subst hA
      subst hB
      have a2 : ∀ n, (Instr.loadAt 52 (.pointer (some ⟨g, off + i * 7, none⟩))).run Try.prog (wr.drewN n) = .ok (.agg x.v.toArray) (wr.drewN n) := fun n => by
        obtain ⟨g1, o1, he, hr⟩ := (HC.out.1.below (HG.out.drewN n).below) i x hx
        cases he
        exact run_loadAt_mid _ g (off + i * 7) 52 x.v _ hr Try.underlying52 rfl (info52l x)
      have b2 : ∀ n, (Instr.loadAt 52 (.pointer (some ⟨g', off' + i * 7, none⟩))).run Try.prog (wr.drewN n) = .ok (.agg x.v.toArray) (wr.drewN n) := fun n => by
        obtain ⟨g1, o1, he, hr⟩ := (HC.out.2.below (HG.out.drewN n).below) i x hx
        cases he
        exact run_loadAt_mid _ g' (off' + i * 7) 52 x.v _ hr Try.underlying52 rfl (info52l x)
      obtain ⟨⟨-, -, -, a9, -⟩, -, -, -, b9, -⟩ := FC.out wr HG.out
      clear hx
      go_wp2
      refine wp_region_quiet_lit (by kernel_rfl) (by kernel_rfl) ?_
      repeat (first
        | (refine BigFrame.wpQuiet_want rfl (fun K hK => ?_); refine quiet_load 52 _ rfl (.pointer (some ⟨g, off + i * 7, none⟩)) (.agg x.v.toArray) rfl (fun w ⟨p, hp⟩ => by rw [hp]; exact a2 p) ?_; refine hK _ ?_; clear hK K; simp only [Act.put, List.setIfInBounds_toArray, List.set_cons_zero, List.set_cons_succ])
        | (refine BigFrame.wpQuiet_want rfl (fun K hK => ?_); refine quiet_load 52 _ rfl (.pointer (some ⟨g', off' + i * 7, none⟩)) (.agg x.v.toArray) rfl (fun w ⟨p, hp⟩ => by rw [hp]; exact b2 p) ?_; refine hK _ ?_; clear hK K; simp only [Act.put, List.setIfInBounds_toArray, List.set_cons_zero, List.set_cons_succ])
        | quiet_step (fail))
      refine wpQuiet_nil ?_
      intro _ hw'
      obtain ⟨nq, hw''⟩ := hw'
      subst hw''
      clear a2 b2 a9 b9
      go_wp2
      go_roundw
      case rel => exact ⟨i + 1, by go_num, hlt, HG.out.drewN _⟩
      case measure => simp [intOf]; omega
    · have FW := FC.out wr HG.out
      obtain ⟨⟨-, a7, a8, -⟩, -, b7, b8, -⟩ := FW
      go_wp2_with fail
      refine (HE.out _ HG.out).mono ?_
      rintro u w2 ⟨rfl, g2⟩
      have G2 := Lib.hid (HG.out.trans g2)
      clear a7 a8 b7 b8 g2
      obtain ⟨⟨-, a7, a8, -⟩, -, b7, b8, -⟩ := FC.out w2 G2.out
      go_wp2_with fail
      refine (HW.out _ G2.out).mono ?_
      rintro u w3 ⟨rfl, g3⟩
      have G3 := Lib.hid (HRB.out.2.trans (G2.out.trans g3))
      clear a7 a8 b7 b8 g3
      go_wp2
      go_ret
      exact ⟨rfl, G3.out⟩
end Go.Proofs.Ytnojphaipfmiiaa
