/- BankSums: the law's walk. -/
import Derived.Test.YtnojphaipfmiiaaAlikeE
import Derived.Deep.DeepCutAuto
import Derived.Deep.CutBlock
import Derived.Deep.CutRange
import Derived.Deep.QuietTactic
import Derived.BigQuiet
namespace Go.Proofs.Ytnojphaipfmiiaa
open Go.Proofs Go.Shelf Go.RowKit Go.Lib Go.Sort
set_option linter.unusedVariables false
set_option linter.unusedSimpArgs false
theorem grown_below {w w' : World} (h : w.grownBy w' none) : Below w.heap.size w w' := ⟨h.os, h.tape, h.output, h.size, fun k hk => h.block k hk (by simp)⟩
theorem below_step {a b c : World} (h : Below a.heap.size a b) (k : Below b.heap.size b c) : Below a.heap.size a c := h.trans (k.mono h.size)
theorem RowAt.left {α : Type} {enc : α → List Value} {k : Nat} {w : World} {A : Option Addr} {l m : List α} (h : RowAt enc k w A (l ++ m)) : RowAt enc k w A l := fun i x hx => h i x (by
  rw [List.getElem?_append_left (List.getElem?_eq_some_iff.1 hx).1]; exact hx)
theorem hone_of_evs {w : World} {A : Option Addr} {es : List Evt} {B : Nat} (h : EvsAt w A es B) : ∀ x ∈ es, x.a.ps.oneCell' = true := fun x hx => by
  obtain ⟨P, n, ps, h1, -⟩ := h.2.2 x hx
  rw [h1]; rfl
theorem wpList_load_midA {P : Program} {ops : Array Oper} {rest : List Oper} {op : Oper} {a : Act} {w : World} {Q : Exit → Act → World → Prop} (hgd : op.guard = none) (ty : TypeId) (x : Operand) (ho : op.op = .load ty x)
    (b o : Nat) (hx : a.eval x = .pointer (some ⟨b, o, none⟩)) (cs : Array Value) (d : TypeDesc) (hc : w.rangeAt b o cs.toList)
    (hu : P.underlying ty = some d) (hd : d.isRow = true) (hi : (P.info? ty).map (·.size) = some cs.size)
    (h : wpList P ops Q rest (a.put op.dst (.agg cs)) w) : wpList P ops Q (op :: rest) a w :=
  wpList_load_mid hgd ty x ho b o hx cs.toList d hc hu hd (by simpa using hi) (by simpa using h)
theorem wpList_load_midG {P : Program} {ops : Array Oper} {rest : List Oper} {op : Oper} {a : Act} {w : World} {Q : Exit → Act → World → Prop} (hw : Region.wanted op (yielded ops a.tmps) = true) (ty : TypeId) (x : Operand) (ho : op.op = .load ty x)
    (b o : Nat) (hx : a.eval x = .pointer (some ⟨b, o, none⟩)) (cs : Array Value) (d : TypeDesc) (hc : w.rangeAt b o cs.toList)
    (hu : P.underlying ty = some d) (hd : d.isRow = true) (hi : (P.info? ty).map (·.size) = some cs.size)
    (h : wpList P ops Q rest (a.put op.dst (.agg cs)) w) : wpList P ops Q (op :: rest) a w :=
  BigFrame.wpList_want hw fun _ hK => wp_load_mid ty x ho b o hx cs.toList d hc hu hd (by simpa using hi) (by simpa using hK _ _ h)
theorem wpList_load_rowG {P : Program} {ops : Array Oper} {rest : List Oper} {o : Oper} {a : Act} {w : World} {Q : Exit → Act → World → Prop} (hw : Region.wanted o (yielded ops a.tmps) = true) (ty : TypeId) (x : Operand) (ho : o.op = .load ty x)
    (g : Nat) (hx : a.eval x = .pointer (some ⟨g, 0, none⟩)) (t : TypeId) (cs : Array Value) (fr : Nat × Nat) (d : TypeDesc) (hg : w.heap[g]? = some (.cells cs t fr))
    (hu : P.underlying ty = some d) (hd : (match d with | .struct _ | .array _ _ => true | _ => false) = true) (hi : (P.info? ty).map (·.size) = some cs.size)
    (h : wpList P ops Q rest (a.put o.dst (.agg cs)) w) : wpList P ops Q (o :: rest) a w :=
  BigFrame.wpList_want hw fun _ hK => wp_load_row ty x ho g hx t cs fr d hg hu hd hi (hK _ _ h)
def bookV (r : Rs) (A : Option Addr) (n cA : Nat) (a b c : Int) : Array Value := r.v ++ #[.slice A n cA, .int .u64 a, .int .u32 b, .int .u32 c]
/-- A Book's cells, where it lies. -/
def BookAt (w : World) (g : Nat) (r : Rs) (A : Option Addr) (n cA : Nat) (a b c : Int) : Prop :=
  w.cell? ⟨g, 13, none⟩ = some (.slice A n cA) ∧ w.cell? ⟨g, 14, none⟩ = some (.int .u64 a) ∧ w.cell? ⟨g, 15, none⟩ = some (.int .u32 b) ∧ w.cell? ⟨g, 16, none⟩ = some (.int .u32 c) ∧ w.rangeAt g 0 r.v.toList
theorem book_cells {w : World} {g n cA : Nat} {r : Rs} {A : Option Addr} {a b c : Int} (h : w.heap[g]? = some (.cells (bookV r A n cA a b c) 36 (0, 0))) : BookAt w g r A n cA a b c := by
  refine ⟨?_, ?_, ?_, ?_, fun j v hv => ?_⟩
  · rw [cell_of_row w g _ _ _ _ h]; rfl
  · rw [cell_of_row w g _ _ _ _ h]; rfl
  · rw [cell_of_row w g _ _ _ _ h]; rfl
  · rw [cell_of_row w g _ _ _ _ h]; rfl
  · rw [cell_of_row w g _ _ _ _ h]
    have hj : j < r.v.size := by
      have := (List.getElem?_eq_some_iff.1 hv).1
      simpa using this
    rw [Nat.zero_add, bookV, Array.getElem?_append_left hj]
    simpa using hv
theorem EvsAt.below {w w1 : World} {A : Option Addr} {es : List Evt} {B : Nat} (h : EvsAt w A es B) (hb : Below w.heap.size w w1) : EvsAt w1 A es B :=
  ⟨h.1.below hb, h.2.1, fun x hx => by
    obtain ⟨P, n, ps, h1, h2, h3⟩ := h.2.2 x hx
    exact ⟨P, n, ps, h1, h2, h3.below hb⟩⟩
theorem ResAt.below {w w1 : World} {r : Rs} {es ws : List Evt} {l : List Ent} {B : Nat} (h : ResAt w r es ws l B) (hb : Below w.heap.size w w1) : ResAt w1 r es ws l B :=
  { evn := h.evn, cmn := h.cmn, ev0 := h.ev0, cm0 := h.cm0, ev := h.ev.below hb, cm := h.cm.below hb, cml := h.cml, wt := by obtain ⟨A, c, h1, h2⟩ := h.wt; exact ⟨A, c, h1, h2.below hb⟩, st := h.st, fl := h.fl, sps := h.sps, sh := h.sh, one := h.one }
theorem one_twin (r : Rs) (A B : Option Addr) (c d : Nat) (h : r.v.all (·.oneCell') = true) : ({ r with evA := A, evc := c, cmA := B, cmc := d } : Rs).v.all (·.oneCell') = true := by
  simp only [Rs.v, List.all_toArray] at h ⊢
  simp only [List.all_cons, List.all_nil, Value.oneCell', Bool.and_true, Bool.true_and] at h ⊢
  exact h
theorem amts_short (ps : List Pr) (accs : List ByteArray) : (amtsR ps accs).1.length < 17 := by
  unfold amtsR
  split
  · simp
  · have hlen : ∀ (l : List ByteArray) (xs : List Int), amtsF ps l = some xs → xs.length = l.length := by
      intro l
      induction l with
      | nil => intro xs hx; simp [amtsF] at hx; subst hx; rfl
      | cons a l ih =>
        intro xs hx
        simp only [amtsF] at hx
        split at hx
        · obtain ⟨ys, hy, rfl⟩ := Option.map_eq_some_iff.1 hx
          simp [ih ys hy]
        · cases hx
    cases hf : amtsF ps accs with
    | none => simp
    | some xs => have := hlen accs xs hf; simp only; omega
set_option maxHeartbeats 8000000 in
set_option maxRecDepth 100000 in
theorem BankSums_any (r : Rs) (es ws : List Evt) (cs : List Ent) (A : Option Addr) (accs : List ByteArray) (cA : Nat) (a b c : Int) (w : World) (h : ResAt w r es ws cs 1048576) (hA : RowAt strv 1 w A accs) (hA0 : A = none → accs = [] ∧ cA = 0) (hl : accs.length ≤ 1048576) :
    Calls Try.prog 3 #[.agg (bookV r A accs.length cA a b c)] w fun e w' => e = .returned (.bool true) ∧ Below w.heap.size w w' := by
  have hbig := Big_eq
  have hmix := mixed
  have hb0 := heap_alloc_last w (.cells (bookV r A accs.length cA a b c) 36)
  obtain ⟨w1, hw1⟩ : ∃ w1, w.alloc (.cells (bookV r A accs.length cA a b c) 36) = w1 := ⟨_, rfl⟩
  have g1 : Below w.heap.size w w1 := by rw [← hw1]; exact ((Gr.refl w).alloc _).below
  obtain ⟨rb, hrb⟩ : ∃ rb, w.heap.size = rb := ⟨_, rfl⟩
  rw [hw1, hrb] at hb0
  have FB : Hid (∀ w2, Below w1.heap.size w1 w2 → BookAt w2 rb r A accs.length cA a b c) := fun w2 g => book_cells ((g.block rb (blk_lt' hb0)).trans hb0)
  have HA := Lib.hid (hA.below g1)
  have H1 := Lib.hid g1
  have HR := Lib.hid h
  have HN := Lib.hid hA0
  have HW1 := Lib.hid (And.intro hw1 hrb)
  clear hb0 hw1 hrb g1 hA hA0 h
  go_enter Try.func3, Try.ntmps3
  go_upto_region 1 with (fail)
  rw [HW1.out.1, HW1.out.2]
  obtain ⟨c13, -⟩ := FB.out w1 (Below.refl _ _)
  go_wp2_with fail
  refine (texts_any A cA accs w1 HA.out HN.out (by omega)).mono ?_
  rintro u w2 ⟨g, cg, rfl, hcg, hgb, hrow, hgr⟩
  clear c13
  have g2 := Lib.hid (grown_below hgr)
  have FG := Lib.hid hrow
  have HG := Lib.hid hgb
  clear hrow hgr hgb
  have FR := Lib.hid (FB.out w2 g2.out).2.2.2.2
  have hes : es.length ≤ 1048576 := HR.out.ev.2.1
  have hcs : cs.length ≤ 1048576 := HR.out.cml
  have info31r : (Try.prog.info? 31).map (·.size) = some r.v.size := info31a r
  have H31 := Lib.hid info31r
  clear info31r
  go_wp2_with (first | (with_reducible refine wpList_load_midA rfl 31 _ rfl rb 0 rfl r.v _ FR.out Try.underlying31 rfl H31.out ?_) | fail)
  have B12 : Below w.heap.size w w2 := below_step H1.out g2.out
  refine (twin_any r es cs w2 HR.out.evn HR.out.cmn (HR.out.ev.1.below B12) (HR.out.cm.below B12) HR.out.ev0 HR.out.cm0 (hone_of_evs HR.out.ev) hes hcs HR.out.one).mono ?_
  rintro u w3 ⟨A1, c1, C1, d1, rfl, hrowA, hrowC, hgr⟩
  obtain ⟨r2, hr2⟩ : ∃ r2 : Rs, { r with evA := A1, evc := c1, cmA := C1, cmc := d1 } = r2 := ⟨_, rfl⟩
  have H2 : Hid (r2.v.all (·.oneCell') = true) := by rw [← hr2]; exact one_twin r A1 C1 c1 d1 HR.out.one
  have HE2 : Hid (r2.evn = es.length ∧ r2.cmn = cs.length ∧ r2.evA = A1 ∧ r2.cmA = C1) := by rw [← hr2]; exact ⟨HR.out.evn, HR.out.cmn, rfl, rfl⟩
  have HR2 := Lib.hid hr2
  rw [hr2]
  clear hr2
  have HRA := Lib.hid (And.intro hrowA hrowC)
  have g3 := Lib.hid (grown_below hgr)
  clear hrowA hrowC hgr B12
  go_upto_region 3 with (first | ((with_reducible refine wpList_store_last rfl 31 _ _ rfl r2.v 31 _ rfl rfl (info31a r2) ?_ H2.out ?_); · rfl) | fail)
  obtain ⟨w4, hw4⟩ : ∃ w4, w3.alloc (.cells r2.v 31) = w4 := ⟨_, rfl⟩
  obtain ⟨b1, hb1⟩ : ∃ b1, w3.heap.size = b1 := ⟨_, rfl⟩
  have g4 : Below w3.heap.size w3 w4 := by rw [← hw4]; exact ((Gr.refl w3).alloc _).below
  have hblk : w4.heap[b1]? = some (.cells r2.v 31 (0, 0)) := by rw [← hw4, ← hb1]; exact heap_alloc_last w3 _
  have H04 := Lib.hid (below_step H1.out (below_step g2.out (below_step g3.out g4)))
  have H14 := Lib.hid (below_step g2.out (below_step g3.out g4))
  have H24 := Lib.hid (below_step g3.out g4)
  have FF : Hid (∀ w5, Below w4.heap.size w4 w5 → (BookAt w5 rb r A accs.length cA a b c ∧ w5.heap[b1]? = some (.cells r2.v 31 (0, 0)) ∧ RowAt strv 1 w5 A accs ∧ RowAt strv 1 w5 (some ⟨g, 0, none⟩) (accs ++ [spare])) ∧
      ∀ a b c, AmountsAt 12 r (some ⟨g, 0, none⟩) cg accs a b c (amtsR (pairsF es cs a b c (keysL es)) accs) w5 ∧ AmountsAt 13 r2 A cA accs a b c (amtsR (pairsF es cs a b c (keysL es)) accs) w5) := fun w5 k => by
    have k0 : Below w.heap.size w w5 := below_step H04.out k
    have k1 : Below w1.heap.size w1 w5 := below_step H14.out k
    have k2 : Below w2.heap.size w2 w5 := below_step H24.out k
    have k3 : Below w3.heap.size w3 w5 := below_step g4 k
    have hrow5 := FG.out.below k2
    refine ⟨⟨FB.out w5 k1, (k.block b1 (blk_lt' hblk)).trans hblk, HA.out.below k1, hrow5⟩, fun a b c => ⟨?_, ?_⟩⟩
    · exact amounts12 r es cs _ cg accs a b c w5 HR.out.evn HR.out.cmn (HR.out.ev.1.below k0) (HR.out.cm.below k0) (hone_of_evs HR.out.ev) (by omega) (by omega) hrow5.left
    · refine amounts13 r2 es cs A cA accs a b c w5 HE2.out.1 HE2.out.2.1 ?_ ?_ (hone_of_evs HR.out.ev) (by omega) (by omega) (HA.out.below k1)
      · rw [HE2.out.2.2.1]; exact HRA.out.1.below k3
      · rw [HE2.out.2.2.2]; exact HRA.out.2.below k3
  have G4 := Lib.hid g4
  have HW4 := Lib.hid (And.intro hw4 hb1)
  rw [hw4, hb1]
  clear hw4 hb1 g4 hblk H14 H24 FR
  have F4 := Lib.hid (FF.out w4 (Below.refl _ _))
  have FR := Lib.hid F4.out.1.1.2.2.2.2
  obtain ⟨c13, c14, c15, c16, -⟩ := F4.out.1.1
  go_wp2_with (first | (with_reducible refine wpList_load_midA rfl 31 _ rfl rb 0 rfl r.v _ FR.out Try.underlying31 rfl H31.out ?_) | fail)
  clear c13 c14 c15 c16
  refine (pSum_any r _ cg accs a b c _ w4 (F4.out.2 a b c).1 (amts_short _ _)).mono ?_
  rintro u w5 ⟨rfl, k5⟩
  have K5 := Lib.hid k5
  clear k5 F4 FR
  have F5 := Lib.hid (FF.out w5 K5.out)
  have FR := Lib.hid F5.out.1.2.1
  obtain ⟨c13, c14, c15, c16, -⟩ := F5.out.1.1
  go_wp2_with (first | (with_reducible refine wpList_load_row rfl 31 _ rfl b1 rfl 31 r2.v (0, 0) _ FR.out Try.underlying31 rfl (info31a r2) ?_) | fail)
  clear c13 c14 c15 c16
  refine (rSum_any r2 A cA accs a b c _ w5 (F5.out.2 a b c).2 (amts_short _ _)).mono ?_
  rintro u w6 ⟨rfl, k6⟩
  have K6 := Lib.hid (below_step K5.out k6)
  clear k6 F5 FR
  have F6 := Lib.hid (FF.out w6 K6.out)
  have FR := Lib.hid F6.out.1.1.2.2.2.2
  obtain ⟨c13, c14, c15, c16, -⟩ := F6.out.1.1
  generalize hres : amtsR (pairsF es cs a b c (keysL es)) accs = res
  have HRES := Lib.hid hres
  clear hres
  go_wp2_with (first | (with_reducible refine wpList_load_midA rfl 31 _ rfl rb 0 rfl r.v _ FR.out Try.underlying31 rfl H31.out ?_) | fail)
  clear c13 c14 c15 c16
  refine (pBal_any r _ cg accs _ w6 (F6.out.2 _ _ _).1).mono ?_
  rintro u w7 ⟨⟨L1, n1, rfl, hl1⟩, k7⟩
  have K7 := Lib.hid (below_step K6.out k7)
  have HL1 := Lib.hid hl1
  clear k7 F6 FR hl1
  have F7 := Lib.hid (FF.out w7 K7.out)
  have FR := Lib.hid F7.out.1.2.1
  obtain ⟨c13, c14, c15, c16, -⟩ := F7.out.1.1
  go_wp2_with (first | (with_reducible refine wpList_load_row rfl 31 _ rfl b1 rfl 31 r2.v (0, 0) _ FR.out Try.underlying31 rfl (info31a r2) ?_) | fail)
  clear c13 c14 c15 c16
  refine (rBal_any r2 A cA accs _ w7 (F7.out.2 _ _ _).2).mono ?_
  rintro u w8 ⟨⟨L2, n2, rfl, hl2⟩, k8⟩
  have K8 := Lib.hid (below_step K7.out k8)
  have HL2 := Lib.hid hl2
  have HL18 := Lib.hid (HL1.out.below k8)
  have hsh := amts_short (pairsF es cs 18446744073709551615 4294967295 4294967295 (keysL es)) accs
  clear k8 F7 FR hl2
  generalize hres2 : amtsR (pairsF es cs 18446744073709551615 4294967295 4294967295 (keysL es)) accs = res2 at *
  have HRES2 := Lib.hid hres2
  clear hres2
  have F8 := Lib.hid (FF.out w8 K8.out)
  obtain ⟨c13, c14, c15, c16, -⟩ := F8.out.1.1
  go_wp2_with fail
  clear c13 c14 c15 c16
  refine (sameInts_any L1 L2 n1 n2 res2.1 w8 (by omega) HL18.out HL2.out).mono ?_
  rintro u w9 ⟨rfl, k9⟩
  have K9 := Lib.hid (below_step K8.out k9.below)
  clear k9 F8 HL18 HL2 HL1 hsh
  have F9 := Lib.hid (FF.out w9 K9.out)
  have FR := Lib.hid F9.out.1.1.2.2.2.2
  have FR2 := Lib.hid F9.out.1.2.1
  obtain ⟨c13, c14, c15, c16, -⟩ := F9.out.1.1
  go_wp2_with (first | ((with_reducible refine wpList_load_midG ?_ 31 _ rfl rb 0 rfl r.v _ FR.out Try.underlying31 rfl H31.out ?_); · rfl) | ((with_reducible refine wpList_load_rowG ?_ 31 _ rfl b1 rfl 31 r2.v (0, 0) _ FR2.out Try.underlying31 rfl (info31a r2) ?_); · rfl) | fail)
  clear c13 c14 c15 c16
  have HSR : Hid (Calls Try.prog 11 #[.agg r.v, .agg r2.v] w9 fun e w' => e = .returned (.bool true) ∧ Gr w9 w') := by
    have k3 : Below w3.heap.size w3 w9 := below_step G4.out K9.out
    have := sameResult_any r es ws cs A1 C1 c1 d1 1048576 w9 (HR.out.below (below_step H04.out K9.out)) (by omega) (HRA.out.1.below k3) (HRA.out.2.below k3)
    rw [HR2.out] at this
    exact this
  refine HSR.out.mono ?_
  rintro u w10 ⟨rfl, k10⟩
  have K10 := Lib.hid (below_step K9.out k10.below)
  clear k10 F9 FR FR2 HSR
  go_wp2
  go_loopw [76, 11] (fun s76 _ wr => ∃ i : Nat, s76 = .int .i64 i ∧ i ≤ accs.length ∧ Hid (Gr w10 wr)) (fun s76 _ _ => accs.length - (intOf s76).toNat)
  case atStart => exact ⟨0, rfl, Nat.zero_le _, Gr.refl _⟩
  case round =>
    obtain ⟨i, rfl, hil, HG⟩ := hrel
    have hi64 : i < 1099511627777 := by omega
    have FW := Lib.hid (FF.out wr (below_step K10.out HG.out.below)).1
    by_cases hlt : i < accs.length
    · have hlti : (i : Int) < (accs.length : Int) := by omega
      obtain ⟨x, hx⟩ : ∃ x, accs[i]? = some x := ⟨accs[i]'hlt, by simp⟩
      obtain ⟨g', off', hA', hr'⟩ := FW.out.2.2.1 i x hx
      subst hA'
      have c0 : wr.cell? ⟨g, i, none⟩ = some (.string x) := by
        obtain ⟨g1, o1, he, hr⟩ := FW.out.2.2.2 i x (by rw [List.getElem?_append_left hlt]; exact hx)
        cases he
        have h1 : wr.cell? ⟨g, 0 + i * 1 + 0, none⟩ = some (.string x) := hr 0 _ rfl
        rw [Nat.mul_one, Nat.add_zero, Nat.zero_add] at h1; exact h1
      have c1 : wr.cell? ⟨g', off' + i, none⟩ = some (.string x) := by
        have h1 : wr.cell? ⟨g', off' + i * 1 + 0, none⟩ = some (.string x) := hr' 0 _ rfl
        rw [Nat.mul_one, Nat.add_zero] at h1; exact h1
      obtain ⟨c13, -⟩ := FW.out.1
      clear hx hr'
      go_wp2
      go_quiet (fail)
      clear c0 c1 c13
      go_wp2
      go_roundw
      case rel => exact ⟨i + 1, by go_num, hlt, HG.out.drewN _⟩
      case measure => simp [intOf]; omega
    · have c0 : wr.cell? ⟨g, accs.length, none⟩ = some (.string ⟨#[115, 112, 97, 114, 101]⟩) := by
        obtain ⟨g1, o1, he, hr⟩ := FW.out.2.2.2 accs.length spare (by rw [List.getElem?_append_right (Nat.le_refl _)]; simp)
        cases he
        have h1 : wr.cell? ⟨g, 0 + accs.length * 1 + 0, none⟩ = some (.string spare) := hr 0 _ rfl
        rw [Nat.mul_one, Nat.add_zero, Nat.zero_add] at h1; exact h1
      have hc1 : (accs.length : Int) + 1 ≤ (cg : Int) := by omega
      have hc2 : (accs.length : Int) < (accs.length : Int) + 1 := by omega
      have HEND := Lib.hid (below_step H04.out (below_step K10.out HG.out.below))
      go_wp2
      go_ret
      exact ⟨rfl, HEND.out⟩
end Go.Proofs.Ytnojphaipfmiiaa
