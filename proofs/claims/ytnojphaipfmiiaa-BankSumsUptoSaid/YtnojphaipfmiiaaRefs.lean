/- The contracts of tidemarkref18.State, of tidemarkref22's amounts, Sum, Balances, and of bank's Sum and Balances over what amounts answers. Lists shorter than 2^40. -/
import Derived.Test.YtnojphaipfmiiaaAmt
namespace Go.Proofs.Ytnojphaipfmiiaa
open Go.RowKit Go.Sort
set_option linter.unusedVariables false
set_option linter.unusedSimpArgs false
attribute [local go_sem high] eq34 eq49
set_option maxHeartbeats 800000 in
set_option maxRecDepth 1000000 in
theorem RState_any (r : Rs) (es : List Evt) (cs : List Ent) (a b c : Int) (w : World) (hn : r.evn = es.length) (hn2 : r.cmn = cs.length) (hr : RowAt Evt.l 20 w r.evA es) (hr2 : RowAt Ent.v 7 w r.cmA cs)
    (hone : ∀ x ∈ es, x.a.ps.oneCell' = true) (hm : es.length < Big) (hm2 : cs.length < Big) :
    Calls Try.prog 17 #[.agg r.v, .agg #[.string ByteArray.empty, .string ByteArray.empty], .agg #[.int .u64 a, .int .u32 b, .int .u32 c]] w fun q w' =>
      (∃ A' c', q = .returned (.slice A' (pairsF es cs a b c (keysL es)).length c') ∧ (pairsF es cs a b c (keysL es)).length ≤ c' ∧ RowAt prv 2 w' A' (pairsF es cs a b c (keysL es))) ∧ Below w.heap.size w w' := by
  have HBX := Lib.hid (blk_alloc (blk_alloc (heap_alloc_last w (.cells r.v 31)) (.cells #[.string ByteArray.empty, .string ByteArray.empty] 58)) (.cells #[.int .u64 a, .int .u32 b, .int .u32 c] 34))
  have HC : Hid (∀ w1, Gr w w1 → Calls Try.prog 25 #[.agg r.v, .agg #[.string ByteArray.empty, .string ByteArray.empty], .agg #[.int .u64 a, .int .u32 b, .int .u32 c], .bool false, .agg #[.int .u32 0, .int .u32 0], .int .i64 0] w1 fun q w' =>
      (∃ A' c', q = .returned (.slice A' (pairsF es cs a b c (keysL es)).length c') ∧ (pairsF es cs a b c (keysL es)).length ≤ c' ∧ RowAt prv 2 w' A' (pairsF es cs a b c (keysL es))) ∧ Below w1.heap.size w1 w') := fun w1 g =>
    pairs_any r es cs a b c w1 hn hn2 (hr.below g.below) (hr2.below g.below) hone hm hm2
  clear hr hone hn hr2 hn2
  generalize pairsF es cs a b c (keysL es) = pf at *
  have c0 : ((w.alloc (.cells r.v 31)).alloc (.cells #[.string ByteArray.empty, .string ByteArray.empty] 58)).heap[w.heap.size + 1]? = some (.cells #[.string ByteArray.empty, .string ByteArray.empty] 58 (0, 0)) := by
    have := heap_alloc_last (w.alloc (.cells r.v 31)) (.cells #[.string ByteArray.empty, .string ByteArray.empty] 58)
    simpa using this
  have c1 := blk_alloc c0 (.cells #[.int .u64 a, .int .u32 b, .int .u32 c] 34)
  have d0 := cell_of_row _ _ 0 _ _ _ c1
  have d1 := cell_of_row _ _ 1 _ _ _ c1
  clear c0 c1
  go_enter Try.func17, Try.ntmps17
  go_wp2_with (with_reducible refine wpList_load_row rfl 31 _ rfl w.heap.size rfl 31 r.v (0, 0) _ HBX.out Try.underlying31 rfl (info31a r) ?_)
  have g : Gr w (((w.alloc (.cells r.v 31)).alloc (.cells #[.string ByteArray.empty, .string ByteArray.empty] 58)).alloc (.cells #[.int .u64 a, .int .u32 b, .int .u32 c] 34)) := (((Gr.refl _).alloc _).alloc _).alloc _
  refine (HC.out _ g).mono ?_
  rintro u1 w1 ⟨⟨A, cc, rfl, hcc, hka⟩, hbl⟩
  have HH : Hid (pf.length ≤ cc ∧ RowAt prv 2 w1 A pf ∧ Below w.heap.size w w1) := ⟨hcc, hka, g.below.trans (hbl.mono g.size)⟩
  clear hcc hka hbl g
  go_wp2
  go_ret
  exact ⟨⟨A, cc, rfl, HH.out.1, HH.out.2.1⟩, HH.out.2.2⟩

/-- What an account has among pairs. -/
def heldF (ps : List Pr) (a : ByteArray) : Int × Bool := match ps.find? (fun p => p.1.toList == a.toList) with
  | some p => amt p.2
  | none => (0, false)
theorem heldF_cons (x : Pr) (ps : List Pr) (a : ByteArray) : heldF (x :: ps) a = if x.1.toList == a.toList then amt x.2 else heldF ps a := by
  unfold heldF
  rw [List.find?_cons]
  cases x.1.toList == a.toList <;> rfl
theorem held_any (A : Option Addr) (c : Nat) (ps : List Pr) (acc : ByteArray) (w : World) (hr : RowAt prv 2 w A ps) (hm : ps.length < Big) :
    Calls Try.prog 18 #[.slice A ps.length c, .string acc] w fun q w' => q = .returned (.tuple #[.int .i64 (heldF ps acc).1, .bool (heldF ps acc).2]) ∧ w = w' := by
  have HR := Lib.hid hr
  clear hr
  go_enter Try.func18, Try.ntmps18
  go_wp2
  go_loop [6] (fun i => ∃ k : Nat, k ≤ ps.length ∧ i = .int .i64 k ∧ Hid (heldF ps acc = heldF (ps.drop k) acc)) (fun i => ps.length - (intOf i).toNat)
  case atStart => exact ⟨0, Nat.zero_le _, rfl, rfl⟩
  case round =>
    obtain ⟨k, hk, rfl, HH⟩ := hrel
    have hi64 : k < 1099511627777 := by have := Big_eq; omega
    by_cases hlt : k < ps.length
    · obtain ⟨x, hx⟩ : ∃ x, ps[k]? = some x := ⟨ps[k]'hlt, by simp⟩
      obtain ⟨b, off, rfl, hrow⟩ := HR.out k x hx
      have h0 : w.cell? ⟨b, off + k * 2, none⟩ = some (.string x.1) := hrow 0 _ rfl
      have h1 : w.cell? ⟨b, off + k * 2 + 1, none⟩ = some (.string x.2) := hrow 1 _ rfl
      have hd : ps.drop k = x :: ps.drop (k + 1) := by
        obtain ⟨h1, h2⟩ := List.getElem?_eq_some_iff.1 hx
        rw [List.drop_eq_getElem_cons h1, h2]
      have hf := HH.out
      rw [hd, heldF_cons] at hf
      have HA := Lib.hid (Amount_any x.2)
      clear hrow hx hd HH
      cases he : x.1.toList == acc.toList with
      | true =>
        rw [he] at hf
        have HF := Lib.hid hf
        clear hf
        go_wp2_with fail
        refine (HA.out _).mono ?_
        rintro u1 w1 ⟨rfl, rfl⟩
        go_wp2
        go_ret2
        exact ⟨by rw [HF.out]; rfl, rfl⟩
      | false =>
        rw [he] at hf
        have HF : Hid (heldF ps acc = heldF (ps.drop (k + 1)) acc) := hf
        clear hf
        go_wp2
        go_round
        case rel => exact ⟨k + 1, hlt, by go_num, HF⟩
        case measure => simp [intOf]; omega
    · have hf := HH.out
      rw [List.drop_eq_nil_of_le (by omega)] at hf
      have HF : Hid (heldF ps acc = (0, false)) := hf
      clear hf HH
      go_wp2
      go_ret2
      exact ⟨by rw [HF.out]; rfl, rfl⟩

theorem info3 : (Try.prog.info? 3).map (fun i => (i.zero, i.size, i.bytes)) = some (some (.int .i64 0), 1, 8) := by kernel_rfl
def intv (n : Int) : List Value := [.int .i64 n]
theorem flatMap_intv (l : List Int) : l.flatMap intv = l.map (Value.int .i64) := by
  induction l with
  | nil => rfl
  | cons x l ih => rw [List.flatMap_cons, ih]; rfl
theorem one_int (n : Int) : ∀ u ∈ intv n, u.oneCell' = true := by intro u hu; simp [intv] at hu; subst hu; rfl
/-- The accounts' amounts among pairs; none, if one has none. -/
def amtsF (ps : List Pr) : List ByteArray → Option (List Int)
  | [] => some []
  | a :: l => if (heldF ps a).2 then (amtsF ps l).map ((heldF ps a).1 :: ·) else none
def amtsR (ps : List Pr) (accs : List ByteArray) : List Int × Bool := if 16 < accs.length then ([], false) else match amtsF ps accs with
  | some l => (l, true)
  | none => ([], false)
theorem amtsF_app (ps : List Pr) (l : List ByteArray) (a : ByteArray) (xs : List Int) (h : amtsF ps l = some xs) : amtsF ps (l ++ [a]) = if (heldF ps a).2 then some (xs ++ [(heldF ps a).1]) else none := by
  induction l generalizing xs with
  | nil =>
    simp only [amtsF, Option.some.injEq] at h
    subst h
    simp only [List.nil_append, amtsF]
    cases (heldF ps a).2 <;> simp
  | cons y l ih =>
    simp only [amtsF] at h
    simp only [List.cons_append, amtsF]
    cases h2 : (heldF ps y).2 with
    | false => rw [h2] at h; simp at h
    | true =>
      rw [h2] at h
      simp only [if_true] at h ⊢
      cases h3 : amtsF ps l with
      | none => rw [h3] at h; simp at h
      | some ys =>
        rw [h3] at h
        simp at h
        subst h
        rw [ih ys h3]
        cases (heldF ps a).2 <;> simp
theorem amtsF_pre (ps : List Pr) (l m : List ByteArray) (h : amtsF ps l = none) : amtsF ps (l ++ m) = none := by
  induction l with
  | nil => simp [amtsF] at h
  | cons y l ih =>
    simp only [amtsF] at h
    simp only [List.cons_append, amtsF]
    cases h2 : (heldF ps y).2 with
    | false => simp
    | true =>
      rw [h2] at h
      simp only [if_true] at h ⊢
      cases h3 : amtsF ps l with
      | none => rw [ih h3]; rfl
      | some ys => rw [h3] at h; simp at h
theorem amtsF_length (ps : List Pr) (l : List ByteArray) (xs : List Int) (h : amtsF ps l = some xs) : xs.length = l.length := by
  induction l generalizing xs with
  | nil => simp [amtsF] at h; subst h; rfl
  | cons y l ih =>
    simp only [amtsF] at h
    cases h2 : (heldF ps y).2 with
    | false => rw [h2] at h; simp at h
    | true =>
      rw [h2] at h
      simp only [if_true] at h
      cases h3 : amtsF ps l with
      | none => rw [h3] at h; simp at h
      | some ys => rw [h3] at h; simp at h; subst h; simp [ih ys h3]

set_option maxHeartbeats 1600000 in
set_option maxRecDepth 1000000 in
theorem ramounts_any (r : Rs) (es : List Evt) (cs : List Ent) (A : Option Addr) (cA : Nat) (accs : List ByteArray) (a b c : Int) (w : World) (hn : r.evn = es.length) (hn2 : r.cmn = cs.length) (hr : RowAt Evt.l 20 w r.evA es) (hr2 : RowAt Ent.v 7 w r.cmA cs)
    (hone : ∀ x ∈ es, x.a.ps.oneCell' = true) (hm : es.length < Big) (hm2 : cs.length < Big) (hra : RowAt strv 1 w A accs) :
    Calls Try.prog 13 #[.agg r.v, .slice A accs.length cA, .agg #[.int .u64 a, .int .u32 b, .int .u32 c]] w fun q w' =>
      (∃ A' c', q = .returned (.tuple #[.slice A' (amtsR (pairsF es cs a b c (keysL es)) accs).1.length c', .bool (amtsR (pairsF es cs a b c (keysL es)) accs).2]) ∧ RowAt intv 1 w' A' (amtsR (pairsF es cs a b c (keysL es)) accs).1) ∧ Below w.heap.size w w' := by
  obtain ⟨i0, hi, hz0, hz1, hz2⟩ := info_parts info3
  by_cases hl : 16 < accs.length
  · have hq : amtsR (pairsF es cs a b c (keysL es)) accs = ([], false) := by rw [amtsR, if_pos hl]
    have hl' : (16 : Int) < (accs.length : Int) := by omega
    rw [hq]
    clear hq hl
    go_enter Try.func13, Try.ntmps13
    go_wp2
    go_ret2
    exact ⟨⟨none, 0, rfl, fun i x hx => by simp at hx⟩, (((Gr.refl _).alloc _).alloc _).below⟩
  · have hl' : ¬ (16 : Int) < (accs.length : Int) := by omega
    have hpl : (pairsF es cs a b c (keysL es)).length < Big := Nat.lt_of_le_of_lt (pairsF_length es cs a b c _) (Nat.lt_of_le_of_lt (keysL_length es) hm)
    have HC : Hid (∀ w1, Gr w w1 → Calls Try.prog 17 #[.agg r.v, .agg #[.string ByteArray.empty, .string ByteArray.empty], .agg #[.int .u64 a, .int .u32 b, .int .u32 c]] w1 fun q w' =>
      (∃ A' c', q = .returned (.slice A' (pairsF es cs a b c (keysL es)).length c') ∧ (pairsF es cs a b c (keysL es)).length ≤ c' ∧ RowAt prv 2 w' A' (pairsF es cs a b c (keysL es))) ∧ Below w1.heap.size w1 w') := fun w1 g =>
      RState_any r es cs a b c w1 hn hn2 (hr.below g.below) (hr2.below g.below) hone hm hm2
    have HRA := Lib.hid hra
    have HBX := Lib.hid (blk_alloc (heap_alloc_last w (.cells r.v 31)) (.cells #[.int .u64 a, .int .u32 b, .int .u32 c] 34))
    clear hr hone hn hr2 hn2 hra hm hm2
    have hq : Hid (amtsR (pairsF es cs a b c (keysL es)) accs = match amtsF (pairsF es cs a b c (keysL es)) accs with
      | some l => (l, true)
      | none => ([], false)) := by show _ = _; rw [amtsR, if_neg hl]
    generalize pairsF es cs a b c (keysL es) = pf at *
    generalize amtsR pf accs = res at *
    go_enter Try.func13, Try.ntmps13
    go_wp2_with (with_reducible refine wpList_load_row rfl 31 _ rfl w.heap.size rfl 31 r.v (0, 0) _ HBX.out Try.underlying31 rfl (info31a r) ?_)
    have g : Gr w ((w.alloc (.cells r.v 31)).alloc (.cells #[.int .u64 a, .int .u32 b, .int .u32 c] 34)) := ((Gr.refl _).alloc _).alloc _
    refine (HC.out _ g).mono ?_
    rintro u1 w1 ⟨⟨B, cc, rfl, hcc, hka⟩, hbl⟩
    have HH : Hid (pf.length ≤ cc ∧ RowAt prv 2 w1 B pf ∧ Below w.heap.size w w1) := ⟨hcc, hka, g.below.trans (hbl.mono g.size)⟩
    clear hcc hka hbl g
    go_wp2
    go_loopw [9, 10] (fun v9 v10 wr => ∃ (i : Nat) (xs : List Int), i ≤ accs.length ∧ v10 = .int .i64 i ∧ Hid (amtsF pf (accs.take i) = some xs ∧ wr.ownsRow w1.heap.size 3 1 v9 xs.length (xs.map (Value.int .i64)) ∧ Below w1.heap.size w1 wr))
      (fun _ v10 _ => accs.length - (intOf v10).toNat)
    case atStart => exact ⟨0, [], Nat.zero_le _, rfl, rfl, ⟨rfl, .inl ⟨rfl, rfl⟩⟩, Below.refl _ _⟩
    case round =>
      obtain ⟨i, xs, hil, rfl, HR⟩ := hrel
      have hi64 : i < 17 := by omega
      have hxl : xs.length < 17 := by have := amtsF_length _ _ _ HR.out.1; rw [List.length_take] at this; omega
      have hsz := HR.out.2.2.size
      by_cases hlt : i < accs.length
      · obtain ⟨x, hx⟩ : ∃ x, accs[i]? = some x := ⟨accs[i]'hlt, by simp⟩
        obtain ⟨b', off, rfl, hrow⟩ := HRA.out i x hx
        have hwb : Below w.heap.size w wr := HH.out.2.2.trans (HR.out.2.2.mono HH.out.2.2.size)
        have hcell : wr.cell? ⟨b', off + i, none⟩ = some (.string x) := by
          have h1 : w.cell? ⟨b', off + i * 1 + 0, none⟩ = some (.string x) := hrow 0 _ rfl
          rw [Nat.mul_one, Nat.add_zero] at h1
          rw [hwb.cell (World.block_lt_of_cell? w _ h1)]; exact h1
        have HE := Lib.hid (held_any B cc pf x wr (HH.out.2.1.below HR.out.2.2) hpl)
        have htk : accs.take (i + 1) = accs.take i ++ [x] := by rw [List.take_add_one, hx]; rfl
        have hap := amtsF_app pf (accs.take i) x xs HR.out.1
        rw [← htk] at hap
        have hdr : accs = accs.take (i + 1) ++ accs.drop (i + 1) := (List.take_append_drop _ _).symm
        have HAP := Lib.hid hap
        have HDR := Lib.hid hdr
        clear hrow hx hwb hap hdr htk
        generalize heldF pf x = y at *
        obtain ⟨n, ok⟩ := y
        cases ok with
        | false =>
          have hr : res = ([], false) := by
            rw [hq.out, HDR.out, amtsF_pre _ _ _ HAP.out]
          have HRES := Lib.hid hr
          clear hr
          go_wp2_with fail
          refine HE.out.mono ?_
          rintro u1 w2 ⟨rfl, rfl⟩
          go_wp2
          go_ret2
          rw [HRES.out]
          exact ⟨⟨none, 0, rfl, fun i x hx => by simp at hx⟩, HH.out.2.2.trans (HR.out.2.2.mono HH.out.2.2.size)⟩
        | true =>
          have hown := HR.out.2.1
          go_wp2_with fail
          refine HE.out.mono ?_
          rintro u1 w2 ⟨rfl, rfl⟩
          go_wp2_with (at_builtin; refine wpList_append_own _ rfl (.tmp 37) (.tmp 39) 41 rfl w1.heap.size 3 i0 (.int .i64 0) 1 8 Try.underlying41 hi hz0 hz1 hz2 rfl (by decide) _ _ _ rfl (hown.alloc _) ⟨_, 0, none⟩ 1 1 (intv n) rfl rfl (cell_news _ (intv n) _ _ rfl) (one_int n) (by unfold maxLen; omega) (by omega) (by simp; omega) ?_; intro v' w4 hown' hgrow _)
          have hb5 := (HR.out.2.2.alloc hsz (.cells #[.int .i64 n] 3)).grown hgrow (by simp; omega) (fun k hk => own_ge hown k hk)
          have HF : Hid (amtsF pf (accs.take (i + 1)) = some (xs ++ [n]) ∧ w4.ownsRow w1.heap.size 3 1 v' (xs ++ [n]).length ((xs ++ [n]).map (Value.int .i64)) ∧ Below w1.heap.size w1 w4) := by
            refine ⟨HAP.out, ?_, hb5⟩
            rw [List.length_append, List.map_append]
            exact hown'
          clear hown hown' hgrow hb5
          go_wp2
          go_roundw
          case rel => exact ⟨i + 1, xs ++ [n], hlt, by go_num, HF⟩
          case measure => simp [intOf]; omega
      · have hi' : i = accs.length := by omega
        have hr : res = (xs, true) := by
          have := HR.out.1
          rw [hi', List.take_length] at this
          rw [hq.out, this]
        have HRES := Lib.hid hr
        clear hr hi'
        go_wp2
        go_ret2
        obtain ⟨A', c', hv, h1, h2, _⟩ := rowAt_of_owns (enc := intv) (k := 1) (fun _ => rfl) (l := xs) (by rw [flatMap_intv]; exact HR.out.2.1)
        rw [HRES.out]
        exact ⟨⟨A', c', by rw [← hv]; rfl, h2⟩, HH.out.2.2.trans (HR.out.2.2.mono HH.out.2.2.size)⟩
def sumW (xs : List Int) : Int := xs.foldl (fun n x => wrap64 (n + x)) 0
theorem sumW_snoc (xs : List Int) (x : Int) : sumW (xs ++ [x]) = wrap64 (sumW xs + x) := by simp [sumW]
/-- What Sum and Balances stand on, whichever of the two texts: the amounts of the accounts at a stamp. -/
def AmountsAt (f : Nat) (r : Rs) (A : Option Addr) (cA : Nat) (accs : List ByteArray) (a b c : Int) (res : List Int × Bool) (w : World) : Prop :=
  ∀ w1, Gr w w1 → Calls Try.prog f #[.agg r.v, .slice A accs.length cA, .agg #[.int .u64 a, .int .u32 b, .int .u32 c]] w1 fun q w' =>
      (∃ A' c', q = .returned (.tuple #[.slice A' res.1.length c', .bool res.2]) ∧ RowAt intv 1 w' A' res.1) ∧ Below w1.heap.size w1 w'

set_option maxHeartbeats 800000 in
set_option maxRecDepth 1000000 in
theorem rSum_any (r : Rs) (A : Option Addr) (cA : Nat) (accs : List ByteArray) (a b c : Int) (res : List Int × Bool) (w : World) (h : AmountsAt 13 r A cA accs a b c res w) (hl : res.1.length < 17) :
    Calls Try.prog 7 #[.agg r.v, .slice A accs.length cA, .agg #[.int .u64 a, .int .u32 b, .int .u32 c]] w fun q w' =>
      q = .returned (.tuple #[.int .i64 (sumW res.1), .bool res.2]) ∧ Below w.heap.size w w' := by
  have HC := Lib.hid h
  have HBX := Lib.hid (blk_alloc (heap_alloc_last w (.cells r.v 31)) (.cells #[.int .u64 a, .int .u32 b, .int .u32 c] 34))
  clear h
  obtain ⟨xs, ok⟩ := res
  simp only at hl
  go_enter Try.func7, Try.ntmps7
  go_wp2_with (with_reducible refine wpList_load_row rfl 31 _ rfl w.heap.size rfl 31 r.v (0, 0) _ HBX.out Try.underlying31 rfl (info31a r) ?_)
  have g : Gr w ((w.alloc (.cells r.v 31)).alloc (.cells #[.int .u64 a, .int .u32 b, .int .u32 c] 34)) := ((Gr.refl _).alloc _).alloc _
  refine (HC.out _ g).mono ?_
  rintro u1 w1 ⟨⟨B, cc, rfl, hka⟩, hbl⟩
  have HH : Hid (RowAt intv 1 w1 B xs ∧ Below w.heap.size w w1) := ⟨hka, g.below.trans (hbl.mono g.size)⟩
  clear hka hbl g
  go_wp2
  go_loop [10, 11] (fun v10 v11 => ∃ i : Nat, i ≤ xs.length ∧ v11 = .int .i64 i ∧ v10 = .int .i64 (sumW (xs.take i))) (fun _ v11 => xs.length - (intOf v11).toNat)
  case atStart => exact ⟨0, Nat.zero_le _, rfl, rfl⟩
  case round =>
    obtain ⟨i, hil, rfl, rfl⟩ := hrel
    by_cases hlt : i < xs.length
    · obtain ⟨x, hx⟩ : ∃ x, xs[i]? = some x := ⟨xs[i]'hlt, by simp⟩
      obtain ⟨b', off, rfl, hrow⟩ := HH.out.1 i x hx
      have hcell : w1.cell? ⟨b', off + i, none⟩ = some (.int .i64 x) := by
        have h1 : w1.cell? ⟨b', off + i * 1 + 0, none⟩ = some (.int .i64 x) := hrow 0 _ rfl
        rw [Nat.mul_one, Nat.add_zero] at h1
        exact h1
      have HS : Hid (sumW (xs.take (i + 1)) = wrap64 (sumW (xs.take i) + x)) := by
        show _ = _
        rw [List.take_add_one, hx, ← sumW_snoc]; rfl
      clear hrow hx
      go_wp2
      go_round
      case rel => exact ⟨i + 1, hlt, by go_num, by rw [HS.out]⟩
      case measure => simp [intOf]; omega
    · have ht : xs.take i = xs := by rw [List.take_of_length_le (by omega)]
      rw [ht]
      clear ht
      go_wp2
      go_ret2
      exact ⟨rfl, HH.out.2⟩

set_option maxHeartbeats 800000 in
set_option maxRecDepth 1000000 in
theorem pSum_any (r : Rs) (A : Option Addr) (cA : Nat) (accs : List ByteArray) (a b c : Int) (res : List Int × Bool) (w : World) (h : AmountsAt 12 r A cA accs a b c res w) (hl : res.1.length < 17) :
    Calls Try.prog 6 #[.agg r.v, .slice A accs.length cA, .agg #[.int .u64 a, .int .u32 b, .int .u32 c]] w fun q w' =>
      q = .returned (.tuple #[.int .i64 (sumW res.1), .bool res.2]) ∧ Below w.heap.size w w' := by
  have HC := Lib.hid h
  have HBX := Lib.hid (blk_alloc (heap_alloc_last w (.cells r.v 31)) (.cells #[.int .u64 a, .int .u32 b, .int .u32 c] 34))
  clear h
  obtain ⟨xs, ok⟩ := res
  simp only at hl
  go_enter Try.func6, Try.ntmps6
  go_wp2_with (with_reducible refine wpList_load_row rfl 31 _ rfl w.heap.size rfl 31 r.v (0, 0) _ HBX.out Try.underlying31 rfl (info31a r) ?_)
  have g : Gr w ((w.alloc (.cells r.v 31)).alloc (.cells #[.int .u64 a, .int .u32 b, .int .u32 c] 34)) := ((Gr.refl _).alloc _).alloc _
  refine (HC.out _ g).mono ?_
  rintro u1 w1 ⟨⟨B, cc, rfl, hka⟩, hbl⟩
  have HH : Hid (RowAt intv 1 w1 B xs ∧ Below w.heap.size w w1) := ⟨hka, g.below.trans (hbl.mono g.size)⟩
  clear hka hbl g
  go_wp2
  go_loop [10, 12, 22] (fun v10 _ v22 => ∃ i : Nat, i ≤ xs.length ∧ v22 = .int .i64 i ∧ v10 = .int .i64 (sumW (xs.take i))) (fun _ _ v22 => xs.length - (intOf v22).toNat)
  case atStart => exact ⟨0, Nat.zero_le _, rfl, rfl⟩
  case round =>
    obtain ⟨i, hil, rfl, rfl⟩ := hrel
    by_cases hlt : i < xs.length
    · obtain ⟨x, hx⟩ : ∃ x, xs[i]? = some x := ⟨xs[i]'hlt, by simp⟩
      obtain ⟨b', off, rfl, hrow⟩ := HH.out.1 i x hx
      have hcell : w1.cell? ⟨b', off + i, none⟩ = some (.int .i64 x) := by
        have h1 : w1.cell? ⟨b', off + i * 1 + 0, none⟩ = some (.int .i64 x) := hrow 0 _ rfl
        rw [Nat.mul_one, Nat.add_zero] at h1
        exact h1
      have HS : Hid (sumW (xs.take (i + 1)) = wrap64 (sumW (xs.take i) + x)) := by
        show _ = _
        rw [List.take_add_one, hx, ← sumW_snoc]; rfl
      clear hrow hx
      go_wp2
      go_round
      case rel => exact ⟨i + 1, hlt, by go_num, by rw [HS.out]⟩
      case measure => simp [intOf]; omega
    · have ht : xs.take i = xs := by rw [List.take_of_length_le (by omega)]
      rw [ht]
      clear ht
      go_wp2
      go_ret2
      exact ⟨rfl, HH.out.2⟩

set_option maxHeartbeats 800000 in
set_option maxRecDepth 1000000 in
theorem rBal_any (r : Rs) (A : Option Addr) (cA : Nat) (accs : List ByteArray) (res : List Int × Bool) (w : World) (h : AmountsAt 13 r A cA accs 18446744073709551615 4294967295 4294967295 res w) :
    Calls Try.prog 9 #[.agg r.v, .slice A accs.length cA] w fun q w' =>
      (∃ A' c', q = .returned (.tuple #[.slice A' res.1.length c', .bool res.2]) ∧ RowAt intv 1 w' A' res.1) ∧ Below w.heap.size w w' := by
  have HC := Lib.hid h
  have HBX := Lib.hid (heap_alloc_last w (.cells r.v 31))
  clear h
  obtain ⟨xs, ok⟩ := res
  go_enter Try.func9, Try.ntmps9
  go_wp2_with (with_reducible refine wpList_load_row rfl 31 _ rfl w.heap.size rfl 31 r.v (0, 0) _ HBX.out Try.underlying31 rfl (info31a r) ?_)
  have g : Gr w (w.alloc (.cells r.v 31)) := (Gr.refl _).alloc _
  refine (HC.out _ g).mono ?_
  rintro u1 w1 ⟨⟨B, cc, rfl, hka⟩, hbl⟩
  have HH : Hid (RowAt intv 1 w1 B xs ∧ Below w.heap.size w w1) := ⟨hka, g.below.trans (hbl.mono g.size)⟩
  clear hka hbl g
  go_wp2
  go_ret2
  exact ⟨⟨B, cc, rfl, HH.out.1⟩, HH.out.2⟩
set_option maxHeartbeats 800000 in
set_option maxRecDepth 1000000 in
theorem pBal_any (r : Rs) (A : Option Addr) (cA : Nat) (accs : List ByteArray) (res : List Int × Bool) (w : World) (h : AmountsAt 12 r A cA accs 18446744073709551615 4294967295 4294967295 res w) :
    Calls Try.prog 8 #[.agg r.v, .slice A accs.length cA] w fun q w' =>
      (∃ A' c', q = .returned (.tuple #[.slice A' res.1.length c', .bool res.2]) ∧ RowAt intv 1 w' A' res.1) ∧ Below w.heap.size w w' := by
  have HC := Lib.hid h
  have HBX := Lib.hid (heap_alloc_last w (.cells r.v 31))
  clear h
  obtain ⟨xs, ok⟩ := res
  go_enter Try.func8, Try.ntmps8
  go_wp2_with (with_reducible refine wpList_load_row rfl 31 _ rfl w.heap.size rfl 31 r.v (0, 0) _ HBX.out Try.underlying31 rfl (info31a r) ?_)
  have g : Gr w (w.alloc (.cells r.v 31)) := (Gr.refl _).alloc _
  refine (HC.out _ g).mono ?_
  rintro u1 w1 ⟨⟨B, cc, rfl, hka⟩, hbl⟩
  have HH : Hid (RowAt intv 1 w1 B xs ∧ Below w.heap.size w w1) := ⟨hka, g.below.trans (hbl.mono g.size)⟩
  clear hka hbl g
  go_wp2
  go_ret2
  exact ⟨⟨B, cc, rfl, HH.out.1⟩, HH.out.2⟩
end Go.Proofs.Ytnojphaipfmiiaa
