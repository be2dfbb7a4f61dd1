/- sameEvents: a list of events and another that holds the same. -/
import Derived.Test.YtnojphaipfmiiaaAlikeC
import Derived.Deep.DeepCutAuto
import Derived.Deep.CutBlock
import Derived.Deep.CutRange
import Derived.Deep.QuietTactic
import Derived.BigQuiet
namespace Go.Proofs.Ytnojphaipfmiiaa
open Go.Proofs Go.Shelf Go.RowKit Go.Lib Go.Sort
set_option linter.unusedVariables false
set_option linter.unusedSimpArgs false
/-- Each answer's pairs lie in memory. -/
def PairsAt (w : World) (es : List Evt) : Prop := ∀ x ∈ es, ∃ (P : Option Addr) (n : Nat) (ps : List Pr), x.a.ps = .slice P ps.length n ∧ ps.length < Big ∧ RowAt prv 2 w P ps
theorem PairsAt.below {w w1 : World} {es : List Evt} (h : PairsAt w es) (hb : Below w.heap.size w w1) : PairsAt w1 es := fun x hx => by
  obtain ⟨P, n, ps, h1, h2, h3⟩ := h x hx
  exact ⟨P, n, ps, h1, h2, h3.below hb⟩
theorem evt_cells {w : World} {A : Option Addr} {es : List Evt} {i : Nat} {x : Evt} (h : RowAt Evt.l 20 w A es) (hx : es[i]? = some x) : ∃ g off, A = some ⟨g, off, none⟩ ∧
    w.cell? ⟨g, off + i * 20, none⟩ = some (.int .i64 x.asked) ∧ w.cell? ⟨g, off + i * 20 + 1, none⟩ = some (.int .i64 x.answered) ∧ w.rangeAt g (off + i * 20 + 2) x.a.l := by
  obtain ⟨g, off, rfl, hr⟩ := h i x hx
  refine ⟨g, off, rfl, hr 0 _ rfl, hr 1 _ rfl, fun j v hv => ?_⟩
  have := hr (j + 2) v (by show (Value.int .i64 x.asked :: Value.int .i64 x.answered :: x.a.l)[j + 2]? = some v; simpa using hv)
  rw [← this]
  congr 2
  omega
/-- An answer's cells, one by one. -/
theorem ans_cells {w : World} {g o : Nat} {a : Ans} (h : w.rangeAt g o a.l) : w.cell? ⟨g, o, none⟩ = some (.int .u32 a.c) ∧ w.cell? ⟨g, o + 1, none⟩ = some (.int .u32 a.t1) ∧ w.cell? ⟨g, o + 2, none⟩ = some (.int .u32 a.t2) ∧ w.cell? ⟨g, o + 3, none⟩ = some (.int .i64 a.k) ∧
    w.cell? ⟨g, o + 4, none⟩ = some (.bool a.b1) ∧ w.cell? ⟨g, o + 5, none⟩ = some (.bool a.b2) ∧ w.cell? ⟨g, o + 6, none⟩ = some (.bool a.b3) ∧ w.cell? ⟨g, o + 7, none⟩ = some (.string a.tok) ∧ w.cell? ⟨g, o + 8, none⟩ = some (.string a.key) ∧ w.cell? ⟨g, o + 9, none⟩ = some (.string a.hi) ∧
    w.cell? ⟨g, o + 10, none⟩ = some (.string a.val) ∧ w.cell? ⟨g, o + 11, none⟩ = some (.int .i64 a.lim) ∧ w.cell? ⟨g, o + 12, none⟩ = some (.int .i64 a.st) ∧ w.cell? ⟨g, o + 13, none⟩ = some (.int .u64 a.wl) ∧ w.cell? ⟨g, o + 14, none⟩ = some (.int .u32 a.lg) ∧ w.cell? ⟨g, o + 15, none⟩ = some (.int .u32 a.nd) ∧
    w.cell? ⟨g, o + 16, none⟩ = some a.ps ∧ w.cell? ⟨g, o + 17, none⟩ = some (.string a.tk) :=
  ⟨h 0 _ rfl, h 1 _ rfl, h 2 _ rfl, h 3 _ rfl, h 4 _ rfl, h 5 _ rfl, h 6 _ rfl, h 7 _ rfl, h 8 _ rfl, h 9 _ rfl, h 10 _ rfl, h 11 _ rfl, h 12 _ rfl, h 13 _ rfl, h 14 _ rfl, h 15 _ rfl, h 16 _ rfl, h 17 _ rfl⟩

theorem quiet_load {P : Program} {o : Oper} {a : Act} {C : World → Prop} {K : Act → Prop} (ty : TypeId) (x : Operand) (ho : o.op = .load ty x) (p v : Value) (hx : a.eval x = p)
    (hrun : ∀ w, C w → (Instr.loadAt ty p).run P w = .ok v w) (hk : K (a.put o.dst v)) : o.quiet P a C K :=
  ⟨v, fun w hw => by
    unfold Oper.quietAt execOp
    simp only [ho, hx, Sem.run_bind, hrun w hw, Result.andThen_ok, Sem.run_pure]
    exact ⟨rfl, rfl⟩, hk⟩
set_option maxHeartbeats 16000000 in
set_option maxRecDepth 100000 in
theorem sameEvents_any (A B : Option Addr) (c d : Nat) (es : List Evt) (w : World) (hm : es.length < Big) (ha : RowAt Evt.l 20 w A es) (hb : RowAt Evt.l 20 w B es) (hp : PairsAt w es) :
    Calls Try.prog 14 #[.slice A es.length c, .slice B es.length d] w fun e w' => e = .returned (.bool true) ∧ Gr w w' := by
  have hbig := Big_eq
  have hmix := mixed
  have HA := Lib.hid ha
  have HB := Lib.hid hb
  have HP := Lib.hid hp
  clear ha hb hp
  go_enter Try.func14, Try.ntmps14
  go_wp2
  go_loopw [13, 5] (fun s13 _ wr => ∃ i : Nat, s13 = .int .i64 i ∧ i ≤ es.length ∧ Hid (Gr w wr)) (fun s13 _ _ => es.length - (intOf s13).toNat)
  case atStart => exact ⟨0, rfl, Nat.zero_le _, Gr.refl _⟩
  case round =>
    obtain ⟨i, rfl, hil, HG⟩ := hrel
    have hi64 : i < 1099511627777 := by omega
    by_cases hlt : i < es.length
    · have hlti : (i : Int) < (es.length : Int) := by omega
      obtain ⟨x, hx⟩ : ∃ x, es[i]? = some x := ⟨es[i]'hlt, by simp⟩
      obtain ⟨g, off, hA, -⟩ := evt_cells HA.out hx
      obtain ⟨g', off', hB, -⟩ := evt_cells HB.out hx
      subst hA
      subst hB
      have HX := Lib.hid hx
      have key : ∀ n os, _ := fun n os => evt_cells (HA.out.below (HG.out.grown n os).below) hx
      have key' : ∀ n os, _ := fun n os => evt_cells (HB.out.below (HG.out.grown n os).below) hx
      have fA : ∀ n os, (grow (wr.drewN n) os).cell? ⟨g, off + i * 20, none⟩ = some (.int .i64 x.asked) ∧ (grow (wr.drewN n) os).cell? ⟨g, off + i * 20 + 1, none⟩ = some (.int .i64 x.answered) ∧ (grow (wr.drewN n) os).rangeAt g (off + i * 20 + 2) x.a.l := fun n os => by
        obtain ⟨g1, o1, he, h⟩ := key n os
        cases he
        exact h
      have fB : ∀ n os, (grow (wr.drewN n) os).cell? ⟨g', off' + i * 20, none⟩ = some (.int .i64 x.asked) ∧ (grow (wr.drewN n) os).cell? ⟨g', off' + i * 20 + 1, none⟩ = some (.int .i64 x.answered) ∧ (grow (wr.drewN n) os).rangeAt g' (off' + i * 20 + 2) x.a.l := fun n os => by
        obtain ⟨g1, o1, he, h⟩ := key' n os
        cases he
        exact h
      have HC : Hid (∀ n os, Calls Try.prog 19 #[.agg x.a.l.toArray, .agg x.a.l.toArray] (grow (wr.drewN n) os) fun e w' => e = .returned (.bool true) ∧ Gr (grow (wr.drewN n) os) w') := fun n os => by
        obtain ⟨P, m, ps, h1, h2, h3⟩ := (HP.out.below (HG.out.grown n os).below) x (List.mem_of_getElem? hx)
        exact sameAnswer_any x.a P m ps _ h1 h2 h3
      have a0 := fun n os => (fA n os).1
      have a1 := fun n os => (fA n os).2.1
      have a2 : ∀ n os, (Instr.loadAt 67 (.pointer (some ⟨g, off + i * 20 + 2, none⟩))).run Try.prog (grow (wr.drewN n) os) = .ok (.agg x.a.l.toArray) (grow (wr.drewN n) os) := fun n os => run_loadAt_mid _ g (off + i * 20 + 2) 67 x.a.l _ (fA n os).2.2 Try.underlying67 rfl (info67l x.a)
      have e0 := fun n os => (fB n os).1
      have e1 := fun n os => (fB n os).2.1
      have e2 : ∀ n os, (Instr.loadAt 67 (.pointer (some ⟨g', off' + i * 20 + 2, none⟩))).run Try.prog (grow (wr.drewN n) os) = .ok (.agg x.a.l.toArray) (grow (wr.drewN n) os) := fun n os => run_loadAt_mid _ g' (off' + i * 20 + 2) 67 x.a.l _ (fB n os).2.2 Try.underlying67 rfl (info67l x.a)
      clear key key' fA fB hx
      go_wp2
      refine wp_region_quiet_grown (by assumption) (by kernel_rfl) ?_
      repeat (first
        | (refine BigFrame.wpQuiet_want rfl (fun K hK => ?_); refine quiet_load 67 _ rfl (.pointer (some ⟨g, off + i * 20 + 2, none⟩)) (.agg x.a.l.toArray) rfl (fun w ⟨p, hp⟩ => by rw [hp]; exact a2 p.n p.os) ?_; refine hK _ ?_; clear hK K; simp only [Act.put, List.setIfInBounds_toArray, List.set_cons_zero, List.set_cons_succ])
        | (refine BigFrame.wpQuiet_want rfl (fun K hK => ?_); refine quiet_load 67 _ rfl (.pointer (some ⟨g', off' + i * 20 + 2, none⟩)) (.agg x.a.l.toArray) rfl (fun w ⟨p, hp⟩ => by rw [hp]; exact e2 p.n p.os) ?_; refine hK _ ?_; clear hK K; simp only [Act.put, List.setIfInBounds_toArray, List.set_cons_zero, List.set_cons_succ])
        | quiet_step ((go_at_call 19; refine Gr.quiet (HC.out _ _))))
      refine wpQuiet_nil ?_
      intro _ hw'
      obtain ⟨⟨nq, osq⟩, hw''⟩ := hw'
      subst hw''
      clear a0 a1 a2 e0 e1 e2
      go_wp2
      go_roundw
      case rel => exact ⟨i + 1, by go_num, hlt, HG.out.grown _ _⟩
      case measure => simp [intOf]; omega
    · go_wp2
      go_ret
      exact ⟨rfl, HG.out⟩
end Go.Proofs.Ytnojphaipfmiiaa
