/- upTo: the writes of the commits up to a stamp. -/
import Derived.Test.YtnojphaipfmiiaaWithin
import Derived.Deep.DeepCutAuto
import Derived.Deep.CutBlock
import Derived.StillTailTactics
namespace Go.Proofs.Ytnojphaipfmiiaa
open Go.Proofs Go.Shelf Go.RowKit Go.Lib
set_option linter.unusedVariables false
set_option linter.unusedSimpArgs false
def mapv (i : Nat) : Value := .map (some i)
abbrev Hist := Int × Int → ByteArray → Option Wrt
/-- What read hands back, in memory: the commits in order, and each transaction's writes. -/
structure HistAt (w : World) (hb : Nat) (A : Option Addr) (c : Nat) (es : List Ent) (wb : Nat) (F : Int × Int → Option Nat) (G : Hist) : Prop where
  c13 : w.cell? ⟨hb, 13, none⟩ = some (.slice A es.length c)
  row : RowAt Ent.v 7 w A es
  c15 : w.cell? ⟨hb, 15, none⟩ = some (.map (some wb))
  wm : MapIs txv mapv w wb F
  none : ∀ t, F t = none → ∀ k, G t k = none
  some : ∀ t i, F t = some i → MapIs Value.string wrV w i (G t)
theorem cell_by {w w' : World} {p : Addr} {v : Value} (hg : w.grownBy w' none) (h : w.cell? p = some v) : w'.cell? p = some v := by
  rw [World.cell?_of_block (hg.block p.block (World.block_lt_of_cell? w _ h) (by simp))]; exact h
theorem row_by {α : Type} {enc : α → List Value} {k : Nat} {w w' : World} {A : Option Addr} {xs : List α} (h : RowAt enc k w A xs) (hg : w.grownBy w' none) : RowAt enc k w' A xs := fun i x hx => by
  obtain ⟨b, off, e, hr⟩ := h i x hx
  exact ⟨b, off, e, fun j v hv => cell_by hg (hr j v hv)⟩
theorem HistAt.kept {w w' : World} {hb : Nat} {A : Option Addr} {c : Nat} {es : List Ent} {wb : Nat} {F : Int × Int → Option Nat} {G : Hist} (h : HistAt w hb A c es wb F G) (hg : w.grownBy w' Option.none) : HistAt w' hb A c es wb F G :=
  ⟨cell_by hg h.c13, row_by h.row hg, cell_by hg h.c15, h.wm.kept hg (by simp), h.none, fun t i hi => (h.some t i hi).kept hg (by simp)⟩

/-- The commits played in order as long as they are not after the stamp. -/
def onF (a b c : Int) (e : Ent) : Bool := !sless a b c e.w e.l e.n
def foldF (G : Hist) (es : List Ent) : ByteArray → Option Wrt := es.foldl (fun m e => over m (G (e.c, e.s))) (fun _ => none)
theorem foldF_snoc (G : Hist) (es : List Ent) (e : Ent) : foldF G (es ++ [e]) = over (foldF G es) (G (e.c, e.s)) := by simp [foldF]
theorem over_nil {f g : ByteArray → Option Wrt} (h : ∀ k, g k = none) : over f g = f := funext fun k => over_none (h k)

theorem tw_stop {α : Type} {p : α → Bool} {l : List α} {i : Nat} {e : α} (he : l[i]? = some e) (hon : ∀ x ∈ l.take i, p x = true) (hoff : p e = false) : l.takeWhile p = l.take i := by
  have h := split_at' l i (List.getElem?_eq_some_iff.1 he).1
  rw [(List.getElem?_eq_some_iff.1 he).2] at h
  conv => lhs; rw [h]
  rw [List.takeWhile_append_of_pos hon, List.takeWhile_cons, hoff]
  simp
theorem tw_all {α : Type} {p : α → Bool} {l : List α} (hon : ∀ x ∈ l, p x = true) : l.takeWhile p = l := by
  have := List.takeWhile_append_of_pos (l₂ := []) hon
  simpa using this

set_option maxHeartbeats 16000000 in
set_option maxRecDepth 100000 in
theorem upTo_any (hb : Nat) (A : Option Addr) (n : Nat) (es : List Ent) (wb : Nat) (F : Int × Int → Option Nat) (G : Hist) (a b c : Int) (q : Nat) (w : World) (H : HistAt w hb A n es wb F G) (hm : es.length < Big)
    (h0 : w.cell? ⟨q, 0, none⟩ = some (.int .u64 a)) (h1 : w.cell? ⟨q, 1, none⟩ = some (.int .u32 b)) (h2 : w.cell? ⟨q, 2, none⟩ = some (.int .u32 c)) :
    Calls Try.prog 21 #[.pointer (some ⟨hb, 0, none⟩), .func (.func 22) #[] #[.pointer (some ⟨q, 0, none⟩)]] w fun e w' => e = .returned (.map (some w.heap.size)) ∧
      MapIs Value.string wrV w' w.heap.size (foldF G (es.takeWhile (onF a b c))) ∧ w.grownBy w' none := by
  have hbig := Big_eq
  have hmix := mixed
  have hmm := @run_makeMap Try.prog
  have HH := Go.Lib.hid H
  have HQ := Go.Lib.hid (And.intro h0 (And.intro h1 h2))
  have W1 : Hid (∀ o, w.grownBy (w.alloc o) none) := fun o => World.grownBy_alloc w o none
  have d13 : ∀ o, (w.alloc o).cell? ⟨hb, 13, none⟩ = some (.slice A es.length n) := fun o => (H.kept (W1.out o)).c13
  clear H h0 h1 h2
  go_enter Try.func21, Try.ntmps21
  go_wp2
  have HM0 : Hid (MapIs Value.string wrV (w.alloc (.map #[] 0)) w.heap.size (foldF G []) ∧ w.grownBy (w.alloc (.map #[] 0)) none) := ⟨MapIs.made _ _ _, W1.out _⟩
  clear d13 W1 hmm
  go_loopw [14] (fun s14 wr => ∃ i : Nat, s14 = .int .i64 i ∧ i ≤ es.length ∧ Aside (MapIs Value.string wrV wr w.heap.size (foldF G (es.take i)) ∧ w.grownBy wr none ∧ ∀ x ∈ es.take i, onF a b c x = true)) (fun s14 _ => es.length - (intOf s14).toNat)
  case atStart => exact ⟨0, rfl, Nat.zero_le _, HM0.out.1, HM0.out.2, by simp⟩
  case round =>
    obtain ⟨i, rfl, hil, HR⟩ := hrel
    have hi64 : i < 1099511627777 := by omega
    clear HM0
    by_cases hlt : i < es.length
    · have hlti : (i : Int) < (es.length : Int) := by omega
      obtain ⟨e, he⟩ : ∃ e, es[i]? = some e := ⟨es[i]'hlt, by simp⟩
      have htk : es.take (i + 1) = es.take i ++ [e] := by rw [List.take_add_one, he]; rfl
      have HC := HH.out.kept HR.out.2.1
      obtain ⟨g, off, hA, hrow⟩ := HC.row i e he
      have c0 : wr.cell? ⟨g, off + i * 7, none⟩ = some (.int .u32 e.c) := hrow 0 _ rfl
      have c1 : wr.cell? ⟨g, off + i * 7 + 1, none⟩ = some (.int .u32 e.s) := hrow 1 _ rfl
      have c2 : wr.cell? ⟨g, off + i * 7 + 2, none⟩ = some (.int .u32 e.h) := hrow 2 _ rfl
      have c3 : wr.cell? ⟨g, off + i * 7 + 3, none⟩ = some (.int .i64 e.o) := hrow 3 _ rfl
      have c4 : wr.cell? ⟨g, off + i * 7 + 4, none⟩ = some (.int .u64 e.w) := hrow 4 _ rfl
      have c5 : wr.cell? ⟨g, off + i * 7 + 5, none⟩ = some (.int .u32 e.l) := hrow 5 _ rfl
      have c6 : wr.cell? ⟨g, off + i * 7 + 6, none⟩ = some (.int .u32 e.n) := hrow 6 _ rfl
      subst hA
      have HTK := Go.Lib.hid htk
      have HE := Go.Lib.hid he
      clear htk he hrow HC
      go_upto_region 5 with (fail)
      obtain ⟨w2, hw2⟩ : ∃ w2, wr.alloc (.cells #[.int .u32 e.c, .int .u32 e.s, .int .u32 e.h, .int .i64 e.o, .int .u64 e.w, .int .u32 e.l, .int .u32 e.n] 52) = w2 := ⟨_, rfl⟩
      have hb2 : w2.heap[wr.heap.size]? = some (.cells #[.int .u32 e.c, .int .u32 e.s, .int .u32 e.h, .int .i64 e.o, .int .u64 e.w, .int .u32 e.l, .int .u32 e.n] 52 (0, 0)) := by rw [← hw2]; exact heap_alloc_last _ _
      have hg2 : wr.grownBy w2 none := by rw [← hw2]; exact World.grownBy_alloc _ _ _
      rw [hw2]
      have d4 : w2.cell? ⟨wr.heap.size, 4, none⟩ = some (.int .u64 e.w) := by rw [cell_of_row _ _ _ _ _ _ hb2]; rfl
      have d5 : w2.cell? ⟨wr.heap.size, 5, none⟩ = some (.int .u32 e.l) := by rw [cell_of_row _ _ _ _ _ _ hb2]; rfl
      have d6 : w2.cell? ⟨wr.heap.size, 6, none⟩ = some (.int .u32 e.n) := by rw [cell_of_row _ _ _ _ _ _ hb2]; rfl
      have HG2 := Go.Lib.hid (And.intro hg2 hb2)
      have hq := HR.out.2.1.trans hg2
      have HST := Go.Lib.hid (State1_any a b c e.w e.l e.n q w2 (cell_by hq HQ.out.1) (cell_by hq HQ.out.2.1) (cell_by hq HQ.out.2.2))
      clear hw2 hg2 hb2 c0 c1 c2 c3 c4 c5 c6 hq
      go_wp2_with fail
      refine HST.out.mono ?_
      rintro u1 w3 ⟨rfl, hg3⟩
      have HG3 : Hid (w2.grownBy w3 none) := hg3.by' none
      clear hg3 HST d4 d5 d6
      have hon : onF a b c e = !sless a b c e.w e.l e.n := rfl
      cases hs : sless a b c e.w e.l e.n with
      | true =>
        rw [hs] at hon
        have HON := Go.Lib.hid hon
        clear hon hs
        go_wp2
        go_ret
        have hg := HG2.out.1.trans HG3.out
        rw [tw_stop HE.out HR.out.2.2 HON.out]
        exact ⟨rfl, HR.out.1.kept hg (by simp), HR.out.2.1.trans hg⟩
      | false =>
        rw [hs] at hon
        have HON := Go.Lib.hid hon
        clear hon hs
        go_wp2
        have hg := HG2.out.1.trans HG3.out
        have HX : Hid (MapIs Value.string wrV w3 w.heap.size (foldF G (es.take i)) ∧ w.grownBy w3 none ∧ HistAt w3 hb (some ⟨g, off, none⟩) n es wb F G) := ⟨HR.out.1.kept hg (by simp), HR.out.2.1.trans hg, HH.out.kept (HR.out.2.1.trans hg)⟩
        have hb3 : w3.heap[wr.heap.size]? = some (.cells #[.int .u32 e.c, .int .u32 e.s, .int .u32 e.h, .int .i64 e.o, .int .u64 e.w, .int .u32 e.l, .int .u32 e.n] 52 (0, 0)) := (HG3.out.block _ (Array.getElem?_eq_some_iff.1 HG2.out.2).1 (by simp)).trans HG2.out.2
        have d0 : w3.cell? ⟨wr.heap.size, 0, none⟩ = some (.int .u32 e.c) := by rw [cell_of_row _ _ _ _ _ _ hb3]; rfl
        have d1 : w3.cell? ⟨wr.heap.size, 1, none⟩ = some (.int .u32 e.s) := by rw [cell_of_row _ _ _ _ _ _ hb3]; rfl
        have d15 := HX.out.2.2.c15
        obtain ⟨mv, hmv⟩ : ∃ mv, ((F (e.c, e.s)).map mapv).getD (.map none) = mv := ⟨_, rfl⟩
        have hl0 : (Instr.lookup 83 (.map (some wb)) (.agg #[.int .u32 e.c, .int .u32 e.s]) false).run Try.prog w3 = .ok mv w3 := by
          rw [← hmv]; exact HX.out.2.2.wm.lookup key_txn Try.underlying83 (Try.zeroValue71 w3) (e.c, e.s) false
        have hl1 : (Instr.lookup 83 (.map (some wb)) (.agg #[.int .u32 e.c, .int .u32 e.s]) false).run Try.prog w3.drew = .ok mv w3.drew := by
          rw [← hmv]; exact (HX.out.2.2.wm.of_block (w' := w3.drew) rfl).lookup key_txn Try.underlying83 (Try.zeroValue71 w3.drew) (e.c, e.s) false
        have HMV := Go.Lib.hid hmv
        clear hg hb3 hmv
        go_still_tail 8, mixed
        change wpList _ _ _ _ _ w3.drew
        obtain ⟨w4, hw4⟩ : ∃ w4, w3.drew = w4 := ⟨_, rfl⟩
        have hg4 : w3.grownBy w4 none := by rw [← hw4]; exact ⟨rfl, rfl, rfl, Nat.le_refl _, fun _ _ _ => rfl⟩
        rw [hw4]
        have HL : Hid (Calls Try.prog 34 #[.map (some w.heap.size), mv] w4 fun r w' => r = .returned (.tuple #[]) ∧ MapIs Value.string wrV w' w.heap.size (foldF G (es.take (i + 1))) ∧ w.grownBy w' none) := by
          show Calls _ _ _ _ _
          rw [HTK.out, foldF_snoc, ← HMV.out]
          have hm4 := HX.out.1.kept hg4 (by simp)
          have hw4' := HX.out.2.1.trans hg4
          have HH4 := HX.out.2.2.kept hg4
          cases hF : F (e.c, e.s) with
          | none =>
            refine (lay_nil w.heap.size w4).mono ?_
            rintro r w5 ⟨rfl, hg5⟩
            rw [over_nil (HH4.none _ hF)]
            exact ⟨rfl, hm4.kept hg5 (by simp), hw4'.trans hg5⟩
          | some c =>
            have hc := HH.out.some _ c hF
            refine (lay_map w.heap.size c _ _ w4 hm4 (HH4.some _ c hF) (by have := hc.lt; omega)).mono ?_
            rintro r w5 ⟨rfl, hm5, hg5⟩
            exact ⟨rfl, hm5, hw4'.andThen hg5 (fun j hj => by injection hj with hj; exact Or.inl (by omega))⟩
        clear hw4 hg4 d0 d1 d15 hl0 hl1 HMV HX
        go_wp2_with fail
        refine HL.out.mono ?_
        rintro u2 w5 ⟨rfl, hm5, hg5⟩
        have H5 : Hid (MapIs Value.string wrV w5 w.heap.size (foldF G (es.take (i + 1))) ∧ w.grownBy w5 none ∧ ∀ x ∈ es.take (i + 1), onF a b c x = true) := by
          refine ⟨hm5, hg5, fun x hx => ?_⟩
          rw [HTK.out, List.mem_append, List.mem_singleton] at hx
          rcases hx with h | rfl
          · exact HR.out.2.2 x h
          · exact HON.out
        clear hm5 hg5 HL
        go_wp2
        go_roundw
        case rel => exact ⟨i + 1, by go_num, hlt, H5.out⟩
        case measure => simp [intOf]; omega
    · go_wp2
      go_ret
      have hi : i = es.length := by omega
      have h := HR.out
      rw [hi, List.take_length] at h
      rw [tw_all h.2.2]
      exact ⟨rfl, h.1, h.2.1⟩
end Go.Proofs.Ytnojphaipfmiiaa
