/- bank.amounts. -/
import Derived.Test.YtnojphaipfmiiaaStateP
import Derived.Deep.DeepCutAuto
import Derived.Deep.CutBlock
import Derived.Deep.CutRange
namespace Go.Proofs.Ytnojphaipfmiiaa
open Go.Proofs Go.Shelf Go.RowKit Go.Lib
set_option linter.unusedVariables false
set_option linter.unusedSimpArgs false
def intV (n : Int) : Value := .int .i64 n
/-- The amounts that the map holds after some pairs. -/
def hasL (ps : List Pr) : ByteArray → Option Int := ps.foldl (fun g p => if (amt p.2).2 = true then upd g p.1 (amt p.2).1 else g) (fun _ => none)
theorem hasL_snoc (ps : List Pr) (p : Pr) : hasL (ps ++ [p]) = if (amt p.2).2 = true then upd (hasL ps) p.1 (amt p.2).1 else hasL ps := by simp [hasL]
theorem hasL_some {ps : List Pr} {k : ByteArray} {n : Int} (h : hasL ps k = some n) : ∃ v, (k, v) ∈ ps ∧ amt v = (n, true) := by
  have gen : ∀ (ps qs : List Pr) (g : ByteArray → Option Int), (∀ k n, g k = some n → ∃ v, (k, v) ∈ qs ∧ amt v = (n, true)) → ∀ k n, (ps.foldl (fun g p => if (amt p.2).2 = true then upd g p.1 (amt p.2).1 else g) g) k = some n → ∃ v, (k, v) ∈ qs ++ ps ∧ amt v = (n, true) := by
    intro ps
    induction ps with
    | nil => intro qs g hg k n h; simpa using hg k n h
    | cons p ps ih =>
      intro qs g hg k n h
      have := ih (qs ++ [p]) (if (amt p.2).2 = true then upd g p.1 (amt p.2).1 else g) (fun k n h => by
        by_cases ha : (amt p.2).2 = true
        · rw [if_pos ha] at h
          by_cases hk : k = p.1
          · subst hk
            simp [upd] at h
            exact ⟨p.2, by simp, Prod.ext h ha⟩
          · simp only [upd, if_neg hk] at h
            obtain ⟨v, h1, h2⟩ := hg k n h
            exact ⟨v, by simp [h1], h2⟩
        · rw [if_neg ha] at h
          obtain ⟨v, h1, h2⟩ := hg k n h
          exact ⟨v, by simp [h1], h2⟩) k n h
      simpa using this
  have := gen ps [] (fun _ => none) (fun _ _ h => by cases h) k n h
  simpa using this
theorem hasL_none {ps : List Pr} {k : ByteArray} (h : hasL ps k = none) : ∀ v, (k, v) ∈ ps → (amt v).2 = false := by
  have gen : ∀ (ps qs : List Pr) (g : ByteArray → Option Int), (g k = none → ∀ v, (k, v) ∈ qs → (amt v).2 = false) → (ps.foldl (fun g p => if (amt p.2).2 = true then upd g p.1 (amt p.2).1 else g) g) k = none → ∀ v, (k, v) ∈ qs ++ ps → (amt v).2 = false := by
    intro ps
    induction ps with
    | nil => intro qs g hg h v hv; exact hg h v (by simpa using hv)
    | cons p ps ih =>
      intro qs g hg h v hv
      refine ih (qs ++ [p]) (if (amt p.2).2 = true then upd g p.1 (amt p.2).1 else g) (fun h v hv => ?_) h v (by simpa using hv)
      by_cases ha : (amt p.2).2 = true
      · rw [if_pos ha] at h
        by_cases hk : k = p.1
        · subst hk; simp [upd] at h
        · simp only [upd, if_neg hk] at h
          rcases List.mem_append.1 hv with hv | hv
          · exact hg h v hv
          · have := List.mem_singleton.1 hv; exact absurd (congrArg Prod.fst this) hk
      · rw [if_neg ha] at h
        rcases List.mem_append.1 hv with hv | hv
        · exact hg h v hv
        · have := List.mem_singleton.1 hv
          rw [← this] at ha
          simpa using ha
  intro v hv
  exact gen ps [] (fun _ => none) (fun _ v hv => by cases hv) h v (by simpa using hv)
theorem held_mem {pf : List Pr} (hf : ∀ k v v', (k, v) ∈ pf → (k, v') ∈ pf → v = v') {k v : ByteArray} (h : (k, v) ∈ pf) : heldF pf k = amt v := by
  unfold heldF
  cases hc : pf.find? (fun p => p.1.toList == k.toList) with
  | none =>
    have := List.find?_eq_none.1 hc (k, v) h
    simp at this
  | some p =>
    have h1 := List.find?_some hc
    have h2 := List.mem_of_find?_eq_some hc
    rw [beq_toList] at h1
    have hk : p.1 = k := of_decide_eq_true h1
    obtain ⟨a, b⟩ := p
    simp only at hk
    subst hk
    rw [hf a b v h2 h]
theorem held_not {pf : List Pr} {k : ByteArray} (h : ∀ v, (k, v) ∉ pf) : heldF pf k = (0, false) := by
  unfold heldF
  cases hc : pf.find? (fun p => p.1.toList == k.toList) with
  | none => rfl
  | some p =>
    have h1 := List.find?_some hc
    have h2 := List.mem_of_find?_eq_some hc
    rw [beq_toList] at h1
    have hk : p.1 = k := of_decide_eq_true h1
    subst hk
    exact absurd h2 (h p.2)
/-- The map's answer is the pairs' answer. -/
theorem has_held {ps pf : List Pr} (hs : ∀ k v, (k, v) ∈ ps ↔ (k, v) ∈ pf) (hf : ∀ k v v', (k, v) ∈ pf → (k, v') ∈ pf → v = v') (k : ByteArray) : hasL ps k = if (heldF pf k).2 = true then some (heldF pf k).1 else none := by
  cases h : hasL ps k with
  | some n =>
    obtain ⟨v, h1, h2⟩ := hasL_some h
    rw [held_mem hf ((hs k v).1 h1), h2]
    rfl
  | none =>
    by_cases hv : ∃ v, (k, v) ∈ pf
    · obtain ⟨v, hv⟩ := hv
      rw [held_mem hf hv, hasL_none h v ((hs k v).2 hv)]
      rfl
    · rw [held_not (fun v h => hv ⟨v, h⟩)]
      rfl
theorem map_far {α β : Type} {K : α → Value} {V : β → Value} {w : World} {b : Nat} {f : α → Option β} (h : MapIs K V w b f) {g o : Nat} {v : Value} (hc : w.cell? ⟨g, o, none⟩ = some v) : g ≠ b := fun e => by
  obtain ⟨es, clock, hb, _⟩ := h
  subst e
  unfold World.cell? at hc
  rw [show (⟨g, o, none⟩ : Addr).block = g from rfl, hb] at hc
  simp at hc
theorem wpList_look_at {α β : Type} {K : α → Value} {V : β → Value} {P : Program} {k : TypeId} {w : World} {ops : Array Oper} {rest : List Oper} {o : Oper} {a : Act} {Q : Exit → Act → World → Prop} (hg : o.guard = none) (m x : Operand) (t : TypeId) (hop : o.op = Op.lookup t m x true) (L : KeyK P k K) (e : TypeId) (ht : P.underlying t = some (.map k e)) (z : Value) (hz : (zeroValue e).run P w = .ok z w)
    (b : Nat) (f : α → Option β) (y : α) (h : MapIs K V w b f) (hm : a.eval m = .map (some b)) (hx : a.eval x = K y) (v : Value) (ok : Bool) (hv : ((f y).map V).getD z = v) (hok : (f y).isSome = ok)
    (hK : wpList P ops Q rest (a.put o.dst (.tuple #[v, .bool ok])) w) : wpList P ops Q (o :: rest) a w :=
  wpList_look hg m x t true hop L e ht z hz b f y h hm hx (by subst hv; subst hok; exact hK)

set_option maxHeartbeats 16000000 in
set_option maxRecDepth 100000 in
theorem pamounts_any (r : Rs) (es : List Evt) (cs : List Ent) (A : Option Addr) (cA : Nat) (accs : List ByteArray) (a b c : Int) (pf : List Pr) (w : World) (hn : r.evn = es.length) (hn2 : r.cmn = cs.length) (hr : RowAt Evt.l 20 w r.evA es) (hr2 : RowAt Ent.v 7 w r.cmA cs)
    (hone : ∀ x ∈ es, x.a.ps.oneCell' = true) (hm : es.length < Big) (hm2 : cs.length < Big) (hra : RowAt strv 1 w A accs) (hf : ∀ k v v', (k, v) ∈ pf → (k, v') ∈ pf → v = v')
    (hpf : ∀ l : List Ent, (∀ x, x ∈ l ↔ x ∈ cs ∧ x.o = 1) → l.Pairwise (fun x y => ¬ elt y x) → ∀ k v, (∃ x, foldF (histF es) (l.takeWhile (onF a b c)) k = some x ∧ x.2.2 = v) ↔ (k, v) ∈ pf) :
    Calls Try.prog 12 #[.agg r.v, .slice A accs.length cA, .agg #[.int .u64 a, .int .u32 b, .int .u32 c]] w fun q w' =>
      (∃ A' c', q = .returned (.tuple #[.slice A' (amtsR pf accs).1.length c', .bool (amtsR pf accs).2]) ∧ RowAt intv 1 w' A' (amtsR pf accs).1) ∧ Below w.heap.size w w' := by
  obtain ⟨i0, hi, hz0, hz1, hz2⟩ := info_parts info3
  have hbig := Big_eq
  by_cases hl : 16 < accs.length
  · have hq : amtsR pf accs = ([], false) := by rw [amtsR, if_pos hl]
    have hl' : (16 : Int) < (accs.length : Int) := by omega
    rw [hq]
    clear hq hl
    go_enter Try.func12, Try.ntmps12
    go_wp2
    go_ret2
    exact ⟨⟨none, 0, rfl, fun i x hx => by simp at hx⟩, (((Gr.refl _).alloc _).alloc _).below⟩
  · have hl' : ¬ (16 : Int) < (accs.length : Int) := by omega
    have hq : Hid (amtsR pf accs = match amtsF pf accs with
      | some l => (l, true)
      | none => ([], false)) := by show _ = _; rw [amtsR, if_neg hl]; cases amtsF pf accs <;> rfl
    have HST : Hid (∀ y : World, w.grownBy y none → Calls Try.prog 15 #[.agg r.v, .agg #[.string ByteArray.empty, .string ByteArray.empty], .agg #[.int .u64 a, .int .u32 b, .int .u32 c]] y fun e w' => ∃ (B : Option Addr) (n : Nat) (ps : List Pr), e = .returned (.slice B ps.length n) ∧ ps.length ≤ n ∧ RowAt prv 2 w' B ps ∧ y.grownBy w' none ∧
        (∀ k v, (k, v) ∈ ps ↔ (k, v) ∈ pf) ∧ ps.length ≤ es.length) := fun y hg => by
      refine (State_any r es cs a b c y hn hn2 (row_by hr hg) (row_by hr2 hg) hone hm hm2).mono ?_
      rintro e w' ⟨B, n, ps, l, h1, h2, h3, h4, h5, h6, h7, h8⟩
      exact ⟨B, n, ps, h1, h2, h3, h4, fun k v => (h5 k v).trans (hpf l h7 h8 k v), h6⟩
    have HRA := Lib.hid hra
    have HF := Lib.hid hf
    have HM := Lib.hid hm
    have hmm := @run_makeMap Try.prog
    have HBX : Hid ((((w.alloc (.cells r.v 31)).alloc (.cells #[.int .u64 a, .int .u32 b, .int .u32 c] 34)).alloc (.map #[] 0)).heap[w.heap.size]? = some (.cells r.v 31 (0, 0))) := blk_alloc (blk_alloc (heap_alloc_last w (.cells r.v 31)) (.cells #[.int .u64 a, .int .u32 b, .int .u32 c] 34)) _
    have hbb : (((w.alloc (.cells r.v 31)).alloc (.cells #[.int .u64 a, .int .u32 b, .int .u32 c] 34)).alloc (.map #[] 0)).heap[w.heap.size + 1]? = some (.cells #[.int .u64 a, .int .u32 b, .int .u32 c] 34 (0, 0)) := by
      have := blk_alloc (heap_alloc_last (w.alloc (.cells r.v 31)) (.cells #[.int .u64 a, .int .u32 b, .int .u32 c] 34)) (.map #[] 0)
      simpa using this
    have d0 := cell_of_row _ _ 0 _ _ _ hbb
    have d1 := cell_of_row _ _ 1 _ _ _ hbb
    have d2 := cell_of_row _ _ 2 _ _ _ hbb
    clear hr hr2 hone hn hn2 hm hm2 hra hf hpf hbb
    go_enter Try.func12, Try.ntmps12
    go_wp2_with (with_reducible refine wpList_load_row rfl 31 _ rfl w.heap.size rfl 31 r.v (0, 0) _ HBX.out Try.underlying31 rfl (info31a r) ?_)
    have s2 : ((w.alloc (.cells r.v 31)).alloc (.cells #[.int .u64 a, .int .u32 b, .int .u32 c] 34)).heap.size = w.heap.size + 1 + 1 := by simp
    have hm0 : MapIs Value.string intV (((w.alloc (.cells r.v 31)).alloc (.cells #[.int .u64 a, .int .u32 b, .int .u32 c] 34)).alloc (.map #[] 0)) (w.heap.size + 1 + 1) (hasL []) := by
      have := MapIs.made Value.string intV ((w.alloc (.cells r.v 31)).alloc (.cells #[.int .u64 a, .int .u32 b, .int .u32 c] 34))
      rw [s2] at this; exact this
    have hg0 : w.grownBy (((w.alloc (.cells r.v 31)).alloc (.cells #[.int .u64 a, .int .u32 b, .int .u32 c] 34)).alloc (.map #[] 0)) none := ((World.grownBy_alloc _ _ none).trans (World.grownBy_alloc _ _ _)).trans (World.grownBy_alloc _ _ _)
    refine (HST.out _ hg0).mono ?_
    rintro u1 w1 ⟨B, n, ps, rfl, hcc, hrow, hg1, hmem, hlen⟩
    have H1 : Hid (RowAt prv 2 w1 B ps ∧ w.grownBy w1 none ∧ (∀ k v, (k, v) ∈ ps ↔ (k, v) ∈ pf) ∧ MapIs Value.string intV w1 (w.heap.size + 1 + 1) (hasL [])) := ⟨hrow, hg0.trans hg1, hmem, hm0.kept hg1 (by simp)⟩
    have hpl : ps.length < Big := Nat.lt_of_le_of_lt hlen HM.out
    have HSZ : Hid (w.heap.size + 1 + 1 < w1.heap.size) := by have := hg1.size; have h2 : (((w.alloc (.cells r.v 31)).alloc (.cells #[.int .u64 a, .int .u32 b, .int .u32 c] 34)).alloc (.map #[] 0)).heap.size = w.heap.size + 3 := by simp
                                                              show _ < _; omega
    obtain ⟨hb, hhb⟩ : ∃ hb, w.heap.size + 1 + 1 = hb := ⟨_, rfl⟩
    have HHB : Hid (w.heap.size ≤ hb) := by show _ ≤ _; omega
    rw [hhb] at H1 HSZ ⊢
    clear hcc hrow hg1 hmem hm0 hg0 s2 d0 d1 d2 HBX HST hlen hmm hhb
    go_wp2
    go_loopw [27] (fun s27 wr => ∃ i : Nat, s27 = .int .i64 i ∧ i ≤ ps.length ∧ Aside (MapIs Value.string intV wr hb (hasL (ps.take i)) ∧ w1.grownBy wr (some hb))) (fun s27 _ => ps.length - (intOf s27).toNat)
    case atStart => exact ⟨0, rfl, Nat.zero_le _, H1.out.2.2.2, ⟨rfl, rfl, rfl, Nat.le_refl _, fun _ _ _ => rfl⟩⟩
    case round =>
      obtain ⟨i, rfl, hil, HH⟩ := hrel
      have hi64 : i < 1099511627777 := by omega
      by_cases hlt : i < ps.length
      · have hlti : (i : Int) < (ps.length : Int) := by omega
        obtain ⟨x, hx⟩ : ∃ x, ps[i]? = some x := ⟨ps[i]'hlt, by simp⟩
        have htk : hasL (ps.take (i + 1)) = if (amt x.2).2 = true then upd (hasL (ps.take i)) x.1 (amt x.2).1 else hasL (ps.take i) := by rw [List.take_add_one, hx]; exact hasL_snoc _ _
        obtain ⟨g, off, hA, hr0⟩ := H1.out.1 i x hx
        subst hA
        have q0 : w1.cell? ⟨g, off + i * 2, none⟩ = some (.string x.1) := hr0 0 _ rfl
        have q1 : w1.cell? ⟨g, off + i * 2 + 1, none⟩ = some (.string x.2) := hr0 1 _ rfl
        have hne : (some hb : Option Nat) ≠ some g := fun e => map_far H1.out.2.2.2 q0 (by injection e with e; exact e.symm)
        have c0 : wr.cell? ⟨g, off + i * 2, none⟩ = some (.string x.1) := cell_row HH.out.2 q0 hne
        have c1 : wr.cell? ⟨g, off + i * 2 + 1, none⟩ = some (.string x.2) := cell_row HH.out.2 q1 hne
        have HTK := Go.Lib.hid htk
        clear htk hx hr0 q0 q1 hne
        go_upto_region 7 with (fail)
        obtain ⟨w2, hw2⟩ : ∃ w2, wr.alloc (.cells #[.string x.1, .string x.2] 60) = w2 := ⟨_, rfl⟩
        have hb2 : w2.heap[wr.heap.size]? = some (.cells #[.string x.1, .string x.2] 60 (0, 0)) := by rw [← hw2]; exact heap_alloc_last _ _
        have hg2 : wr.grownBy w2 none := by rw [← hw2]; exact World.grownBy_alloc _ _ _
        rw [hw2]
        obtain ⟨bx, hbx⟩ : ∃ bx, wr.heap.size = bx := ⟨_, rfl⟩
        rw [hbx] at hb2 ⊢
        have H2 : Hid (MapIs Value.string intV w2 hb (hasL (ps.take i)) ∧ w1.grownBy w2 (some hb) ∧ w2.heap[bx]? = some (.cells #[.string x.1, .string x.2] 60 (0, 0))) := ⟨HH.out.1.kept hg2 (by simp), HH.out.2.andThen hg2 (fun j hj => by cases hj), hb2⟩
        have d1 : w2.cell? ⟨bx, 1, none⟩ = some (.string x.2) := by rw [cell_of_row _ _ _ _ _ _ hb2]; rfl
        have HA := Go.Lib.hid (amount_any x.2 w2)
        obtain ⟨am, ham⟩ : ∃ am, amt x.2 = am := ⟨_, rfl⟩
        rw [ham] at HA HTK
        obtain ⟨v, ok⟩ := am
        clear hw2 hg2 hb2 hbx c0 c1 HH ham
        go_wp2_with fail
        refine HA.out.mono ?_
        rintro u2 w3 ⟨rfl, hg3⟩
        have hg3' := hg3.by' none
        have H3 : Hid (MapIs Value.string intV w3 hb (hasL (ps.take i)) ∧ w1.grownBy w3 (some hb) ∧ w3.heap[bx]? = some (.cells #[.string x.1, .string x.2] 60 (0, 0))) := ⟨H2.out.1.kept hg3' (by simp), H2.out.2.1.andThen hg3' (fun j hj => by cases hj), (hg3'.block _ (Array.getElem?_eq_some_iff.1 H2.out.2.2).1 (by simp)).trans H2.out.2.2⟩
        clear hg3 hg3' d1 HA H2
        cases ok with
        | false =>
          go_wp2
          go_roundw
          case rel => exact ⟨i + 1, by go_num, hlt, by rw [HTK.out]; exact H3.out.1, H3.out.2.1⟩
          case measure => simp [intOf]; omega
        | true =>
          have e0 : w3.cell? ⟨bx, 0, none⟩ = some (.string x.1) := by rw [cell_of_row _ _ _ _ _ _ H3.out.2.2]; rfl
          have hmp := H3.out.1
          go_wp2_with (first | (at_mapUpdate; refine wpList_put rfl (.tmp 38) (.tmp 40) (.tmp 41) 54 rfl key_str 3 Try.underlying54 hb (hasL (ps.take i)) x.1 v hmp rfl rfl rfl ?_; intro w4 hm4 hg4 hs4) | fail)
          have H4 : Hid (MapIs Value.string intV w4 hb (hasL (ps.take (i + 1))) ∧ w1.grownBy w4 (some hb)) := ⟨by rw [HTK.out]; exact hm4, H3.out.2.1.trans hg4⟩
          clear hm4 hg4 hs4 hmp e0
          first
            | exact ⟨⟨i + 1, by go_num, hlt, H4.out⟩, by simp [intOf]; omega⟩
            | (go_wp2
               go_roundw
               case rel => exact ⟨i + 1, by go_num, hlt, H4.out⟩
               case measure => simp [intOf]; omega)
      · have hi' : i = ps.length := by omega
        subst hi'
        rw [List.take_length] at HH
        obtain ⟨wl, hwl⟩ : ∃ wl, wr = wl := ⟨_, rfl⟩
        rw [hwl] at HH ⊢
        clear hwl
        have H5 : Hid (MapIs Value.string intV wl hb (fun k => if (heldF pf k).2 = true then some (heldF pf k).1 else none) ∧ w.grownBy wl none) := by
          refine ⟨HH.out.1.congr (has_held H1.out.2.2.1 HF.out), H1.out.2.1.andThen HH.out.2 (fun j hj => by injection hj with hj; exact Or.inl (by have := HHB.out; omega))⟩
        have hlz : accs.length < 17 := by omega
        clear HH H1 HF HSZ
        go_wp2
        go_loopw [13, 45] (fun v13 v45 wr => ∃ (i : Nat) (xs : List Int), i ≤ accs.length ∧ v45 = .int .i64 i ∧ Hid (amtsF pf (accs.take i) = some xs ∧ wr.ownsRow wl.heap.size 3 1 v13 xs.length (xs.map (Value.int .i64)) ∧ wl.grownBy wr none))
          (fun _ v45 _ => accs.length - (intOf v45).toNat)
        case atStart => exact ⟨0, [], Nat.zero_le _, rfl, rfl, ⟨rfl, .inl ⟨rfl, rfl⟩⟩, ⟨rfl, rfl, rfl, Nat.le_refl _, fun _ _ _ => rfl⟩⟩
        case round =>
          obtain ⟨i, xs, hil, rfl, HR⟩ := hrel
          have hi64 : i < 17 := by omega
          have hxl : xs.length < 17 := by have := amtsF_length _ _ _ HR.out.1; rw [List.length_take] at this; omega
          have hsz := HR.out.2.2.size
          by_cases hlt : i < accs.length
          · have hlti : (i : Int) < (accs.length : Int) := by omega
            obtain ⟨x, hx⟩ : ∃ x, accs[i]? = some x := ⟨accs[i]'hlt, by simp⟩
            have hwx := H5.out.2.trans HR.out.2.2
            obtain ⟨b', off, hA', hrow⟩ := row_by HRA.out hwx i x hx
            subst hA'
            have hcell : wr.cell? ⟨b', off + i, none⟩ = some (.string x) := by
              have h1 : wr.cell? ⟨b', off + i * 1 + 0, none⟩ = some (.string x) := hrow 0 _ rfl
              rw [Nat.mul_one, Nat.add_zero] at h1
              exact h1
            have hmp := H5.out.1.kept HR.out.2.2 (by simp)
            have htk : accs.take (i + 1) = accs.take i ++ [x] := by rw [List.take_add_one, hx]; rfl
            have hap := amtsF_app pf (accs.take i) x xs HR.out.1
            rw [← htk] at hap
            have hdr : accs = accs.take (i + 1) ++ accs.drop (i + 1) := (List.take_append_drop _ _).symm
            have HAP := Lib.hid hap
            have HDR := Lib.hid hdr
            have HMP := Lib.hid hmp
            clear hrow hx hwx hap hdr htk hmp
            obtain ⟨y, hy⟩ : ∃ y, heldF pf x = y := ⟨_, rfl⟩
            rw [hy] at HAP
            have HY := Lib.hid hy
            clear hy
            obtain ⟨n, ok⟩ := y
            have hz3 := Try.zeroValue3
            cases ok with
            | false =>
              have hr : amtsR pf accs = ([], false) := by
                rw [hq.out, HDR.out, amtsF_pre _ _ _ HAP.out]
              have HRES := Lib.hid hr
              have e1 : ((if (heldF pf x).2 = true then some (heldF pf x).1 else none : Option Int).map intV).getD (.int .i64 0) = .int .i64 0 := by rw [HY.out]; rfl
              have e2 : (if (heldF pf x).2 = true then some (heldF pf x).1 else none : Option Int).isSome = false := by rw [HY.out]; rfl
              have E1 := Lib.hid e1
              have E2 := Lib.hid e2
              clear hr e1 e2
              go_wp2_with (first | (at_lookup; refine wpList_look_at rfl (.tmp 50) (.tmp 51) 54 rfl key_str 3 Try.underlying54 (.int .i64 0) (hz3 _) hb _ x HMP.out rfl rfl (.int .i64 0) false E1.out E2.out ?_) | fail)
              go_ret2
              rw [HRES.out]
              have hB := H5.out.2.trans HR.out.2.2
              exact ⟨⟨none, ⟨0, rfl⟩, fun i x hx => by simp at hx⟩, ⟨hB.os, hB.tape, hB.output, hB.size, fun k hk => hB.block k hk (by simp)⟩⟩
            | true =>
              have hown := HR.out.2.1
              have e1 : ((if (heldF pf x).2 = true then some (heldF pf x).1 else none : Option Int).map intV).getD (.int .i64 0) = .int .i64 n := by rw [HY.out]; rfl
              have e2 : (if (heldF pf x).2 = true then some (heldF pf x).1 else none : Option Int).isSome = true := by rw [HY.out]; rfl
              have E1 := Lib.hid e1
              have E2 := Lib.hid e2
              clear e1 e2
              go_wp2_with (first | (at_lookup; refine wpList_look_at rfl (.tmp 50) (.tmp 51) 54 rfl key_str 3 Try.underlying54 (.int .i64 0) (hz3 _) hb _ x HMP.out rfl rfl (.int .i64 n) true E1.out E2.out ?_) | (at_builtin; refine wpList_append_own _ rfl (.tmp 57) (.tmp 59) 41 rfl wl.heap.size 3 i0 (.int .i64 0) 1 8 Try.underlying41 hi hz0 hz1 hz2 rfl (by decide) _ _ _ rfl (hown.alloc _) ⟨_, 0, none⟩ 1 1 (intv n) rfl rfl (cell_news _ (intv n) _ _ rfl) (one_int n) (by unfold maxLen; omega) (by omega) (by simp; omega) ?_; intro v' w4 hown' hgrow _) | fail)
              have hb5 : wl.grownBy w4 none := HR.out.2.2.andThen ((World.grownBy_alloc wr _ _).trans hgrow) (fun j hj => Or.inl (own_ge hown j hj))
              have HF : Hid (amtsF pf (accs.take (i + 1)) = some (xs ++ [n]) ∧ w4.ownsRow wl.heap.size 3 1 v' (xs ++ [n]).length ((xs ++ [n]).map (Value.int .i64)) ∧ wl.grownBy w4 none) := by
                refine ⟨HAP.out, ?_, hb5⟩
                rw [List.length_append, List.map_append]
                exact hown'
              clear hown hown' hgrow hb5
              first
                | exact ⟨⟨i + 1, xs ++ [n], hlt, by go_num, HF⟩, by simp [intOf]; omega⟩
                | (go_wp2
                   go_roundw
                   case rel => exact ⟨i + 1, xs ++ [n], hlt, by go_num, HF⟩
                   case measure => simp [intOf]; omega)
          · have hi' : i = accs.length := by omega
            have hr : amtsR pf accs = (xs, true) := by
              have := HR.out.1
              rw [hi', List.take_length] at this
              rw [hq.out, this]
            have HRES := Lib.hid hr
            clear hr hi'
            go_wp2
            go_ret2
            obtain ⟨A', c', hv, h1, h2, _⟩ := rowAt_of_owns (enc := intv) (k := 1) (fun _ => rfl) (l := xs) (by rw [flatMap_intv]; exact HR.out.2.1)
            rw [HRES.out]
            have hB := H5.out.2.trans HR.out.2.2
            first
              | exact ⟨⟨A', c', by rw [← hv]; rfl, h2⟩, ⟨hB.os, hB.tape, hB.output, hB.size, fun k hk => hB.block k hk (by simp)⟩⟩
              | exact ⟨⟨A', ⟨c', by rw [← hv]; rfl⟩, h2⟩, ⟨hB.os, hB.tape, hB.output, hB.size, fun k hk => hB.block k hk (by simp)⟩⟩
end Go.Proofs.Ytnojphaipfmiiaa
