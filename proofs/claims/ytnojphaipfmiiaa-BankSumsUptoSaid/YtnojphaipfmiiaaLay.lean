/- lay: one map laid over another. -/
import Derived.Test.YtnojphaipfmiiaaMapped
import Derived.Test.YtnojphaipfmiiaaStableD
import Derived.Deep.DeepCutAuto
import Derived.Deep.CutBlock
namespace Go.Proofs.Ytnojphaipfmiiaa
open Go.Proofs Go.Shelf Go.RowKit Go.Lib
set_option linter.unusedVariables false
set_option linter.unusedSimpArgs false
/-- A Write as a map's element. -/
def wrV (x : Wrt) : Value := .agg (wrv x).toArray
def over (f g : ByteArray → Option Wrt) : ByteArray → Option Wrt := fun k => match g k with | none => f k | some x => if x.2.1 = true then none else some x
theorem over_none {f g : ByteArray → Option Wrt} {k : ByteArray} (h : g k = none) : over f g k = f k := by simp [over, h]
theorem over_some {f g : ByteArray → Option Wrt} {k : ByteArray} {x : Wrt} (h : g k = some x) : over f g k = if x.2.1 = true then none else some x := by simp [over, h]
theorem Gr.by' {w w' : World} (h : Gr w w') (row : Option Nat) : w.grownBy w' row := by
  have b := h.below
  exact ⟨b.os, b.tape, b.output, b.size, fun k hk _ => b.block k hk⟩

theorem range_nil (w : World) : (Instr.range 71 (.map none)).run Try.prog w = .ok (.pointer (some ⟨w.heap.size, 0, none⟩)) (w.alloc (.mapIter none 0 #[] 0)) := by
  simp [Instr.range, run_underlying Try.underlying71]
theorem next_nil (w : World) (r : Nat) (ty : TypeId) (hr : w.heap[r]? = some (.mapIter none 0 #[] 0)) : (Instr.next (.pointer (some ⟨r, 0, none⟩)) false ty).run Try.prog w = .ok (.tuple #[.bool false]) w := by
  simp [Instr.next, getObj, Sem.run, hr, Result.andThen]
theorem wpList_range_nil {w : World} {ops : Array Oper} {rest : List Oper} {o : Oper} {a : Act} {Q : Exit → Act → World → Prop} (hg : o.guard = none) (m : Operand) (hop : o.op = Op.range 71 m) (hm : a.eval m = .map none)
    (hK : ∀ w', w'.heap[w.heap.size]? = some (.mapIter none 0 #[] 0) → w.grownBy w' none → wpList Try.prog ops Q rest (a.put o.dst (.pointer (some ⟨w.heap.size, 0, none⟩))) w') : wpList Try.prog ops Q (o :: rest) a w := by
  refine wpList_plain hg fun K' hK' => ?_
  unfold Oper.wp
  simp [execOp, hop, hm, range_nil, Result.andThen]
  exact hK' _ _ (hK _ (MapKept.heap_alloc w _).1 (World.grownBy_alloc w _ none))
theorem wpList_next_nil {w : World} {ops : Array Oper} {rest : List Oper} {o : Oper} {a : Act} {Q : Exit → Act → World → Prop} (hg : o.guard = none) (it : Operand) (hop : o.op = Op.next it false) (r : Nat) (hr : w.heap[r]? = some (.mapIter none 0 #[] 0)) (hit : a.eval it = .pointer (some ⟨r, 0, none⟩))
    (hK : wpList Try.prog ops Q rest (a.put o.dst (.tuple #[.bool false])) w) : wpList Try.prog ops Q (o :: rest) a w := by
  refine wpList_plain hg fun K' hK' => ?_
  unfold Oper.wp
  simp [execOp, hop, hit, next_nil w r _ hr, Result.andThen]
  exact hK' _ _ hK

set_option maxHeartbeats 4000000 in
set_option maxRecDepth 100000 in
theorem lay_nil (b : Nat) (w : World) : Calls Try.prog 34 #[.map (some b), .map none] w fun e w' => e = .returned (.tuple #[]) ∧ w.grownBy w' none := by
  go_enter Try.func34, Try.ntmps34
  go_wp2_with (first | (at_range; refine wpList_range_nil rfl (.tmp 6) rfl rfl ?_; intro w1 hr hg) | fail)
  go_frame
  go_loopw [4] (fun _ wr => wr = w1) (fun _ _ => 0)
  case atStart => rfl
  case round =>
    obtain rfl := hrel
    go_wp2_with (first | (at_next; refine wpList_next_nil rfl (.tmp 7) rfl _ hr rfl ?_) | fail)
    go_end0
    exact ⟨rfl, hg⟩

theorem MapIs.kept {α β : Type} {K : α → Value} {V : β → Value} {w w' : World} {b : Nat} {f : α → Option β} {row : Option Nat} (h : MapIs K V w b f) (hg : w.grownBy w' row) (hb : some b ≠ row) : MapIs K V w' b f := h.of_block (hg.block b h.lt hb)
theorem Ranging.kept {α β : Type} {K : α → Value} {V : β → Value} {w w' : World} {b r : Nat} {f : α → Option β} {vis : α → Prop} {cnt : Nat} {row : Option Nat} (h : Ranging K V w b r f vis cnt) (hg : w.grownBy w' row) (hb : some b ≠ row) (hr : some r ≠ row) : Ranging K V w' b r f vis cnt :=
  h.of_block (hg.block b h.is.lt hb) (hg.block r h.lt.1 hr)

set_option maxHeartbeats 8000000 in
set_option maxRecDepth 100000 in
theorem lay_map (b c : Nat) (f g : ByteArray → Option Wrt) (w : World) (hf : MapIs Value.string wrV w b f) (hg : MapIs Value.string wrV w c g) (hne : c ≠ b) :
    Calls Try.prog 34 #[.map (some b), .map (some c)] w fun e w' => e = .returned (.tuple #[]) ∧ MapIs Value.string wrV w' b (over f g) ∧ w.grownBy w' (some b) := by
  have HF := Go.Lib.hid hf
  clear hf
  go_enter Try.func34, Try.ntmps34
  go_wp2_with (first | (at_range; refine wpList_range rfl (.tmp 6) 71 rfl 92 Try.underlying71 c g hg rfl ?_; intro w1 cnt0 hrg hgr hsz) | fail)
  go_frame
  have HFS : Hid (MapIs Value.string wrV w1 b f ∧ w.grownBy w1 (some b) ∧ w.heap.size ≠ b) := ⟨HF.out.kept hgr (by simp), hgr.but _, fun e => by have := HF.out.lt; omega⟩
  clear HF hgr hsz
  go_loopw [4] (fun _ wr => ∃ cnt vis f', Ranging Value.string wrV wr c w.heap.size g vis cnt ∧ Aside (MapIs Value.string wrV wr b f' ∧ w.grownBy wr (some b) ∧ (∀ k, vis k → f' k = over f g k) ∧ (∀ k, ¬ vis k → f' k = f k))) (fun _ wr => rLeft wr c w.heap.size)
  case atStart => exact ⟨cnt0, _, f, hrg, HFS.out.1, HFS.out.2.1, fun k h => h.elim, fun k _ => rfl⟩
  case round =>
    obtain ⟨cnt, vis, f', hr, HH⟩ := hrel
    go_upto_region 2 with (first
      | (at_next; refine wpList_next rfl (.tmp 7) rfl key_str c w.heap.size g vis cnt hr rfl (fun h0 hl => ?_) (fun y u w2 cnt2 hgy hvy hr2 hlt hg2 hs2 hen => ?_); rotate_left; (obtain ⟨x1, x2, x3⟩ := u; simp only [wrV, wrv] at hen ⊢); rotate_left) | fail)
    · go_end0
      have H := HH.out
      refine ⟨rfl, H.1.congr fun k => ?_, H.2.1⟩
      cases hk : g k with
      | none =>
        by_cases hv : vis k
        · exact H.2.2.1 k hv
        · rw [H.2.2.2 k hv, over_none hk]
      | some x => exact H.2.2.1 k (hl k x hk)
    · skip
      have HM : Hid (∀ o, MapIs Value.string wrV (w2.alloc o) b f' ∧ w.grownBy (w2.alloc o) (some b) ∧ Ranging Value.string wrV (w2.alloc o) c w.heap.size g (fun x => vis x ∨ x = y) cnt2) := fun o => by
        have H := HH.out
        have hga : w2.grownBy (w2.alloc o) none := World.grownBy_alloc w2 o none
        have hm2 := H.1.kept hg2 (fun e => HFS.out.2.2 (by injection e with e; exact e.symm))
        exact ⟨hm2.kept hga (by simp), H.2.1.andThen (hg2.andThen hga (by simp)) (fun j hj => by injection hj with hj; exact Or.inl (by omega)), hr2.kept hga (by simp) (by simp)⟩
      have HLT : Hid (rLeft wr c w.heap.size = cnt ∧ cnt2 < cnt) := ⟨hr.left_eq, hlt⟩
      have HGY := Go.Lib.hid hgy
      have HVY := Go.Lib.hid hvy
      clear hr hr2 hg2 hgy hvy hg hlt
      cases x2 with
      | true =>
        go_wp2_with (first | (at_delete; refine wpList_del rfl (.tmp 15) (.tmp 16) 72 rfl key_str 92 Try.underlying72 b f' y (HM.out _).1 rfl rfl ?_; intro w3 hm3 hg3 hs3) | fail)
        go_frame
        have HX := Go.Lib.hid (HM.out (.cells #[.string x1, .bool true, .string x3] 92))
        go_roundw
        case rel =>
          refine ⟨cnt2, _, _, HX.out.2.2.kept hg3 (fun e => hne (by injection e)) (fun e => HFS.out.2.2 (by injection e)), hm3, HX.out.2.1.trans hg3, ?_, ?_⟩
          · rintro k (hk | rfl)
            · by_cases hky : k = y
              · subst hky; exact absurd hk HVY.out
              · simp only [del, hky, if_false]; exact HH.out.2.2.1 k hk
            · simp [del, over_some HGY.out]
          · intro k hk
            have hky : k ≠ y := fun e => hk (Or.inr e)
            simp only [del, hky, if_false]
            exact HH.out.2.2.2 k (fun h => hk (Or.inl h))
        case measure =>
          rw [(HX.out.2.2.kept hg3 (fun e => hne (by injection e)) (fun e => HFS.out.2.2 (by injection e))).left_eq, HLT.out.1]; exact HLT.out.2
      | false =>
        go_wp2_with (first | (at_mapUpdate; refine wpList_put rfl (.tmp 17) (.tmp 18) (.tmp 19) 72 rfl key_str 92 Try.underlying72 b f' y (x1, false, x3) (HM.out _).1 rfl rfl rfl ?_; intro w3 hm3 hg3 hs3) | fail)
        go_frame
        have HX := Go.Lib.hid (HM.out (.cells #[.string x1, .bool false, .string x3] 92))
        go_roundw
        case rel =>
          refine ⟨cnt2, _, _, HX.out.2.2.kept hg3 (fun e => hne (by injection e)) (fun e => HFS.out.2.2 (by injection e)), hm3, HX.out.2.1.trans hg3, ?_, ?_⟩
          · rintro k (hk | rfl)
            · by_cases hky : k = y
              · subst hky; exact absurd hk HVY.out
              · simp only [upd, hky, if_false]; exact HH.out.2.2.1 k hk
            · simp [upd, over_some HGY.out]
          · intro k hk
            have hky : k ≠ y := fun e => hk (Or.inr e)
            simp only [upd, hky, if_false]
            exact HH.out.2.2.2 k (fun h => hk (Or.inl h))
        case measure =>
          rw [(HX.out.2.2.kept hg3 (fun e => hne (by injection e)) (fun e => HFS.out.2.2 (by injection e))).left_eq, HLT.out.1]; exact HLT.out.2
end Go.Proofs.Ytnojphaipfmiiaa
