/- Contracts of tidemarkref18's last and put; a row of the call's own reads as a row. Lists shorter than 2^40. -/
import Derived.Test.YtnojphaipfmiiaaLeaf
import Derived.Deep.WholeRow
namespace Go.Proofs.Ytnojphaipfmiiaa
open Go.RowKit Go.Sort
set_option linter.unusedVariables false
set_option linter.unusedSimpArgs false
attribute [local go_sem high] eq34 eq49
theorem wpList_store_last {P : Program} {ops : Array Oper} {rest : List Oper} {o : Oper} {a : Act} {W : World} {Q : Exit → Act → World → Prop} (hgd : o.guard = none) (ty : TypeId) (x y : Operand) (ho : o.op = .store ty x y)
    (cells : Array Value) (t : TypeId) (old : Array Value) (hx : a.eval x = .pointer (some ⟨W.heap.size, 0, none⟩)) (hy : a.eval y = .agg cells)
    (hi : (P.info? ty).map (·.size) = some cells.size) (hold : old.size = cells.size) (h1 : cells.all (·.oneCell') = true)
    (h : wpList P ops Q rest (a.put o.dst undef) (W.alloc (.cells cells t))) : wpList P ops Q (o :: rest) a (W.alloc (.cells old t)) :=
  wpList_store_row hgd ty x y ho _ cells hx hy t old (heap_alloc_last W _) hi hold h1 (by rw [World.setRow_alloc_new]; exact h)

theorem info67 : (Try.prog.info? 67).map (·.size) = some 18 := by kernel_rfl
theorem info67l (x : Ans) : (Try.prog.info? 67).map (·.size) = some x.l.length := info67
theorem info67a (x : Ans) : (Try.prog.info? 67).map (·.size) = some x.l.toArray.size := info67
theorem Ans.one (x : Ans) (h : x.ps.oneCell' = true) : x.l.toArray.all (·.oneCell') = true := by
  simp only [Ans.l, List.all_toArray]
  simp only [List.all_cons, h, List.all_nil]
  rfl

/-- A Result, raw: but for its events' and commits' lists the cells are whatever. -/
structure Rs where
  st : Value
  c1 : Value
  c2 : Value
  sp : Value
  cap : Value
  park : Value
  win : Value
  evA : Option Addr
  evn : Nat
  evc : Nat
  wt : Value
  cmA : Option Addr
  cmn : Nat
  cmc : Nat
  sh : Value
  fl : Value
  sps : Value
def Rs.v (r : Rs) : Array Value := #[r.st, r.c1, r.c2, r.sp, r.cap, r.park, r.win, .slice r.evA r.evn r.evc, r.wt, .slice r.cmA r.cmn r.cmc, r.sh, r.fl, r.sps]

def lastI (es : List Evt) (e f : Int) (key : ByteArray) : Nat → Int
  | 0 => -1
  | n + 1 => match es[n]? with
    | some x => if wrB x.a e f && x.a.key.toList == key.toList then (n : Int) else lastI es e f key n
    | none => -1

theorem last_any (r : Rs) (es : List Evt) (e f : Int) (key : ByteArray) (u : Nat) (w : World) (hn : r.evn = es.length) (hu : u ≤ es.length) (hr : RowAt Evt.l 20 w r.evA es) (hone : ∀ x ∈ es, x.a.ps.oneCell' = true) (hm : es.length ≤ 4611686018427387904) :
    Calls Try.prog 38 #[.agg r.v, .agg #[.int .u32 e, .int .u32 f], .string key, .int .i64 u] w
     fun q w' => q = .returned (.int .i64 (lastI es e f key u)) ∧ Gr w w' := by
  obtain ⟨st, c1, c2, sp, cap, park, win, evA, evn, evc, wt, cmA, cmn, cmc, sh, fl, sps⟩ := r
  simp only at hn hr
  subst hn
  simp only [Rs.v]
  have HR := Lib.hid hr
  have HO := Lib.hid hone
  clear hr hone
  go_enter Try.func38, Try.ntmps38
  go_wp2
  have HW := Lib.hid (Gr.refl ((w.alloc (Obj.cells #[st, c1, c2, sp, cap, park, win, .slice evA es.length evc, wt, .slice cmA cmn cmc, sh, fl, sps] 31)).alloc (Obj.cells #[.int .u32 e, .int .u32 f] 49)))
  go_loopg [9] u (fun g v9 wr => ∃ n : Nat, v9 = .int .i64 ((n : Int) - 1) ∧ n ≤ u ∧ n ≤ g ∧ Hid (lastI es e f key n = lastI es e f key u) ∧ Hid (Gr ((w.alloc (Obj.cells #[st, c1, c2, sp, cap, park, win, .slice evA es.length evc, wt, .slice cmA cmn cmc, sh, fl, sps] 31)).alloc (Obj.cells #[.int .u32 e, .int .u32 f] 49)) wr))
  case atStart => exact ⟨u, rfl, Nat.le_refl _, Nat.le_refl _, rfl, HW.out⟩
  case round =>
    clear HW
    obtain ⟨n, rfl, hnu, hng, HL, HG⟩ := hrel
    have hb := HG.out.below
    obtain ⟨hc, hf⟩ := bcell hb
    have hz : w.heap.size + 1 < wr.heap.size := by have := HG.out.size; simp at this; omega
    cases n with
    | zero =>
      go_wp2
      go_ret
      exact ⟨by rw [← HL.out]; rfl, (((Gr.refl _).alloc _).alloc _).trans HG.out⟩
    | succ i =>
      obtain ⟨x, hx⟩ : ∃ x, es[i]? = some x := ⟨es[i]'(by omega), by simp⟩
      have ei : ((i + 1 : Nat) : Int) - 1 = (i : Int) := by omega
      rw [ei]
      clear ei
      have hlt : (i : Int) < (es.length : Int) := by omega
      obtain ⟨b, off, rfl, hrow⟩ := HR.out i x hx
      have hrow2 : wr.rangeAt b (off + i * 20 + 2) x.a.l := fun j v hv => by
        have h1 : w.cell? ⟨b, off + i * 20 + (2 + j), none⟩ = some v := hrow (2 + j) v (by rw [Nat.add_comm]; exact hv)
        have h2 := (((Gr.refl _).alloc _).alloc _).trans HG.out
        rw [← Nat.add_assoc] at h1
        rw [h2.below.cell (World.block_lt_of_cell? w _ h1)]; exact h1
      have h1 := Ans.one x.a (HO.out x (List.mem_of_getElem? hx))
      have HC := Lib.hid (writes_any x.a e f)
      have HL2 : Hid ((if wrB x.a e f && x.a.key.toList == key.toList then (i : Int) else lastI es e f key i) = lastI es e f key u) := by
        have := HL.out; rw [lastI, hx] at this; exact this
      have H1 := Lib.hid h1
      have HR2 := Lib.hid hrow2
      clear hrow hrow2 h1 hx hb
      generalize x.a = y at *
      clear HL
      have HK : ∀ w2, Gr (wr.alloc (Obj.cells y.l.toArray 67)) w2 → w2.cell? ⟨wr.heap.size, 8, none⟩ = some (.string y.key) := fun w2 g => by
        rw [g.below.cell (p := ⟨wr.heap.size, 8, none⟩) (by simp)]
        simp [Ans.l]
      by_cases hb1 : wrB y e f = true
      · rw [hb1] at HC
        by_cases hb2 : (y.key.toList == key.toList) = true
        · rw [hb1, hb2] at HL2
          go_wp2_with (first | (with_reducible refine wpList_load_mid rfl 67 _ rfl b (off + i * 20 + 2) rfl y.l _ HR2.out Try.underlying67 rfl (info67l y) ?_) | ((with_reducible refine wpList_store_last rfl 67 _ _ rfl y.l.toArray 67 _ rfl rfl (info67a y) ?_ H1.out ?_); · rfl) | (with_reducible refine wpList_load_row rfl 67 _ rfl _ rfl 67 _ (0, 0) _ (heap_alloc_last _ _) Try.underlying67 rfl (info67a y) ?_))
          refine (HC.out _).mono ?_
          rintro e1 w1 ⟨rfl, g1⟩
          have hk1 := HK w1 g1
          go_wp2
          go_ret
          exact ⟨by rw [← HL2.out]; rfl, ((((((Gr.refl _).alloc _).alloc _).trans HG.out).alloc _).trans g1)⟩
        · have hb2 := eq_false_of_ne_true hb2
          rw [hb1, hb2] at HL2
          go_wp2_with (first | (with_reducible refine wpList_load_mid rfl 67 _ rfl b (off + i * 20 + 2) rfl y.l _ HR2.out Try.underlying67 rfl (info67l y) ?_) | ((with_reducible refine wpList_store_last rfl 67 _ _ rfl y.l.toArray 67 _ rfl rfl (info67a y) ?_ H1.out ?_); · rfl) | (with_reducible refine wpList_load_row rfl 67 _ rfl _ rfl 67 _ (0, 0) _ (heap_alloc_last _ _) Try.underlying67 rfl (info67a y) ?_))
          refine (HC.out _).mono ?_
          rintro e1 w1 ⟨rfl, g1⟩
          have hk1 := HK w1 g1
          go_wp2
          go_roundg i
          case measure => omega
          case rel => exact ⟨i, rfl, by omega, Nat.le_refl _, HL2.out, (HG.out.alloc _).trans g1⟩
      · have hb1 := eq_false_of_ne_true hb1
        rw [hb1] at HC HL2
        go_wp2_with (first | (with_reducible refine wpList_load_mid rfl 67 _ rfl b (off + i * 20 + 2) rfl y.l _ HR2.out Try.underlying67 rfl (info67l y) ?_) | ((with_reducible refine wpList_store_last rfl 67 _ _ rfl y.l.toArray 67 _ rfl rfl (info67a y) ?_ H1.out ?_); · rfl) | (with_reducible refine wpList_load_row rfl 67 _ rfl _ rfl 67 _ (0, 0) _ (heap_alloc_last _ _) Try.underlying67 rfl (info67a y) ?_))
        refine (HC.out _).mono ?_
        rintro e1 w1 ⟨rfl, g1⟩
        have hk1 := HK w1 g1
        go_wp2
        go_roundg i
        case measure => omega
        case rel => exact ⟨i, rfl, by omega, Nat.le_refl _, HL2.out, (HG.out.alloc _).trans g1⟩
def strv (s : ByteArray) : List Value := [.string s]
theorem flatMap_strv (l : List ByteArray) : l.flatMap strv = l.map Value.string := by
  induction l with
  | nil => rfl
  | cons x l ih => rw [List.flatMap_cons, ih]; rfl
/-- A row of the call's own reads as a row in memory. -/
theorem rowAt_of_owns {α : Type} {enc : α → List Value} {k : Nat} (hk : ∀ x, (enc x).length = k) {w : World} {base : Nat} {e : TypeId} {v : Value} {l : List α}
    (h : w.ownsRow base e k v l.length (l.flatMap enc)) : ∃ A c, v = .slice A l.length c ∧ l.length ≤ c ∧ RowAt enc k w A l ∧ (A = none → l = []) := by
  obtain ⟨_, ⟨rfl, h0⟩ | ⟨g, cap, cur, rfl, hb, hg, hn, hc, hs, ht⟩⟩ := h
  · obtain rfl : l = [] := List.length_eq_zero_iff.1 h0
    exact ⟨none, 0, rfl, Nat.le_refl _, fun i x hx => by simp at hx, fun _ => rfl⟩
  · refine ⟨_, _, rfl, hn, fun i x hx => ⟨g, 0, rfl, fun j v hv => ?_⟩, fun h => by cases h⟩
    have hi : i < l.length := (List.getElem?_eq_some_iff.1 hx).1
    have hj : j < k := by rw [← hk x]; exact (List.getElem?_eq_some_iff.1 hv).1
    have key : ∀ (l : List α) (i : Nat) (x : α), l[i]? = some x → (l.flatMap enc)[i * k + j]? = (enc x)[j]? := by
      intro l
      induction l with
      | nil => intro i x h; simp at h
      | cons y l ih =>
        intro i x h
        rw [List.flatMap_cons]
        cases i with
        | zero =>
          simp at h
          subst h
          rw [Nat.zero_mul, Nat.zero_add, List.getElem?_append_left (by rw [hk]; exact hj)]
        | succ i =>
          rw [List.getElem?_append_right (by rw [hk, Nat.succ_mul]; omega), hk]
          rw [show (i + 1) * k + j - k = i * k + j by rw [Nat.succ_mul]; omega]
          exact ih i x (by simpa using h)
    have h1 := key l i x hx
    rw [← ht, hv] at h1
    rw [cell_of_row w g _ cur e (0, 0) hg]
    have h2 : cur.toList[i * k + j]? = some v := by
      rw [List.getElem?_take] at h1
      split at h1
      · exact h1
      · cases h1
    simpa using h2
theorem beq_toList (a b : ByteArray) : (a.toList == b.toList) = decide (a = b) := by
  by_cases h : a = b
  · subst h; simp
  · rw [decide_eq_false h]
    rw [beq_eq_false_iff_ne]
    intro e
    rw [ByteArray.toList_eq, ByteArray.toList_eq] at e
    exact h (ByteArray.ext (Array.toList_inj.1 e))

/-- How long a list may be: 2^40. -/
def Big : Nat := 1099511627776
theorem Big_eq : Big = 1099511627776 := rfl

def insK (key : ByteArray) : List ByteArray → List ByteArray
  | [] => [key]
  | x :: xs => if Op.bytesLess key.toList x.toList then key :: x :: xs else x :: insK key xs
def putL (l : List ByteArray) (key : ByteArray) : List ByteArray := if l.any (fun x => x.toList == key.toList) then l else insK key l
def gtr (key : ByteArray) (l : List ByteArray) : Bool := l.any fun x => Op.bytesLess key.toList x.toList
def outK (key : ByteArray) (l : List ByteArray) : List ByteArray := if gtr key l then insK key l else l
theorem gtr_snoc (key x : ByteArray) (l : List ByteArray) : gtr key (l ++ [x]) = (gtr key l || Op.bytesLess key.toList x.toList) := by simp [gtr]
theorem insK_no (key : ByteArray) (l : List ByteArray) (h : gtr key l = false) : insK key l = l ++ [key] := by
  induction l with
  | nil => rfl
  | cons x l ih =>
    simp [gtr] at h
    simp only [insK, h.1]
    rw [ih (by simpa [gtr] using h.2)]
    rfl
theorem insK_yes (key x : ByteArray) (l : List ByteArray) (h : gtr key l = true) : insK key (l ++ [x]) = insK key l ++ [x] := by
  induction l with
  | nil => simp [gtr] at h
  | cons y l ih =>
    by_cases hy : Op.bytesLess key.toList y.toList = true
    · simp [insK, hy]
    · have hy := eq_false_of_ne_true hy
      simp [gtr, hy] at h
      simp only [insK, hy, List.cons_append]
      rw [ih (by simpa [gtr] using h)]
      rfl
theorem insK_new (key x : ByteArray) (l : List ByteArray) (h : gtr key l = false) (hx : Op.bytesLess key.toList x.toList = true) : insK key (l ++ [x]) = l ++ [key, x] := by
  induction l with
  | nil => simp [insK, hx]
  | cons y l ih =>
    simp [gtr] at h
    simp only [insK, h.1, List.cons_append]
    rw [ih (by simpa [gtr] using h.2)]
    rfl
theorem outK_done (key x : ByteArray) (l : List ByteArray) (h : gtr key l = true) : outK key (l ++ [x]) = outK key l ++ [x] := by
  simp only [outK, gtr_snoc, h, Bool.true_or, if_true]
  exact insK_yes key x l h
theorem outK_new (key x : ByteArray) (l : List ByteArray) (h : gtr key l = false) (hx : Op.bytesLess key.toList x.toList = true) : outK key (l ++ [x]) = outK key l ++ [key] ++ [x] := by
  simp only [outK, gtr_snoc, h, hx, Bool.false_or, if_true, Bool.false_eq_true, if_false]
  rw [insK_new key x l h hx]
  simp
theorem outK_not (key x : ByteArray) (l : List ByteArray) (h : gtr key l = false) (hx : Op.bytesLess key.toList x.toList = false) : outK key (l ++ [x]) = outK key l ++ [x] := by
  simp only [outK, gtr_snoc, h, hx, Bool.false_or, Bool.false_eq_true, if_false]
theorem own_ge {w : World} {base : Nat} {e : TypeId} {size n : Nat} {v : Value} {xs : List Value} (h : w.ownsRow base e size v n xs) (k : Nat) (hk : v.ownBlock = some k) : base ≤ k := by
  obtain ⟨_, ⟨rfl, _⟩ | ⟨g, cap, cur, rfl, hb, _⟩⟩ := h
  · simp [Value.ownBlock] at hk
  · simp [Value.ownBlock] at hk
    omega
theorem one_str (s : ByteArray) : ∀ u ∈ [Value.string s], u.oneCell' = true := by intro u hu; simp at hu; subst hu; rfl
theorem insK_length (key : ByteArray) (l : List ByteArray) : (insK key l).length = l.length + 1 := by
  induction l with
  | nil => rfl
  | cons x l ih => unfold insK; split <;> simp [ih]
theorem info9 : (Try.prog.info? 9).map (fun i => (i.zero, i.size, i.bytes)) = some (some (.string ⟨#[]⟩), 1, 16) := by kernel_rfl

set_option maxHeartbeats 800000 in
set_option maxRecDepth 1000000 in
theorem put_any (A : Option Addr) (c : Nat) (ss : List ByteArray) (key : ByteArray) (w : World) (hr : RowAt strv 1 w A ss) (hc : ss.length ≤ c) (hm : ss.length < Big) :
    Calls Try.prog 45 #[.slice A ss.length c, .string key] w fun q w' =>
      (∃ A' c', q = .returned (.slice A' (putL ss key).length c') ∧ (putL ss key).length ≤ c' ∧ RowAt strv 1 w' A' (putL ss key)) ∧ Below w.heap.size w w' := by
  obtain ⟨i0, hi, hz0, hz1, hz2⟩ := info_parts info9
  have HR := Lib.hid hr
  have HC := Lib.hid hc
  clear hr hc
  go_enter Try.func45, Try.ntmps45
  go_wp2
  go_loopw [4, 5, 6, 7] (fun v4 v5 v6 v7 wr => ∃ i : Nat, i ≤ ss.length ∧ v7 = .int .i64 i ∧ v4 = .slice none 0 0 ∧ v6 = .bool (gtr key (ss.take i)) ∧ Hid ((ss.take i).any (fun x => x.toList == key.toList) = false) ∧ wr.ownsRow w.heap.size 9 1 v5 (outK key (ss.take i)).length ((outK key (ss.take i)).map Value.string) ∧ Below w.heap.size w wr)
    (fun _ _ _ v7 _ => ss.length - (intOf v7).toNat)
  case atStart => exact ⟨0, Nat.zero_le _, rfl, rfl, rfl, rfl, ⟨rfl, .inl ⟨rfl, rfl⟩⟩, Below.refl _ _⟩
  case round =>
    obtain ⟨i, hil, rfl, rfl, rfl, HN, hown, hbel⟩ := hrel
    have hi64 : i < 1099511627777 := by have := Big_eq; omega
    by_cases hlt : i < ss.length
    · obtain ⟨x, hx⟩ : ∃ x, ss[i]? = some x := ⟨ss[i]'hlt, by simp [hlt]⟩
      have htk : ss.take (i + 1) = ss.take i ++ [x] := by rw [List.take_add_one, hx]; rfl
      obtain ⟨b, off, rfl, hrow⟩ := HR.out i x hx
      have hcell : wr.cell? ⟨b, off + i, none⟩ = some (.string x) := by
        have h1 : w.cell? ⟨b, off + i * 1 + 0, none⟩ = some (.string x) := hrow 0 _ rfl
        rw [Nat.mul_one, Nat.add_zero] at h1
        rw [hbel.cell (World.block_lt_of_cell? w _ h1)]; exact h1
      have hlen : (outK key (ss.take i)).length ≤ i + 1 := by
        unfold outK; split
        · rw [insK_length]; simp; omega
        · simp; omega
      have HT := Lib.hid htk
      have HX := Lib.hid hx
      have HLEN := Lib.hid hlen
      clear htk hx hrow hlen
      by_cases heq : (x.toList == key.toList) = true
      · go_wp2
        go_ret
        have hp : putL ss key = ss := by
          unfold putL; rw [if_pos]
          rw [List.any_eq_true]
          exact ⟨x, List.mem_of_getElem? HX.out, heq⟩
        rw [hp]
        exact ⟨⟨_, _, rfl, HC.out, HR.out.below hbel⟩, hbel⟩
      · have heq := eq_false_of_ne_true heq
        have HN2 : Hid ((ss.take (i + 1)).any (fun x => x.toList == key.toList) = false) := by
          show _ = _
          rw [HT.out, List.any_append, HN.out]; simp [heq]
        have hbs := hbel.size
        have hm2 : (outK key (ss.take i)).length < Big + 2 := by have := HLEN.out; omega
        have HE : Hid (∀ (v : Value) (w1 : World), w1.ownsRow w.heap.size 9 1 v ((outK key (ss.take i)).length + 1) ((outK key (ss.take i)).map Value.string ++ [.string x]) → outK key (ss.take (i + 1)) = outK key (ss.take i) ++ [x] → w1.ownsRow w.heap.size 9 1 v (outK key (ss.take (i + 1))).length ((outK key (ss.take (i + 1))).map Value.string)) := fun v w1 h e => by
          rw [e, List.length_append, List.map_append]; exact h
        cases hd : gtr key (ss.take i) with
        | true =>
          have HO := Lib.hid (outK_done key x (ss.take i) hd)
          have HD : Hid (gtr key (ss.take (i + 1)) = true) := by show _ = _; rw [HT.out, gtr_snoc, hd]; rfl
          clear hd
          go_wp2_with (first | (at_builtin; refine wpList_append_own _ rfl _ _ 23 rfl w.heap.size 9 i0 (.string ⟨#[]⟩) 1 16 Try.underlying23 hi hz0 hz1 hz2 rfl (by decide) _ _ _ rfl (hown.alloc _) ⟨wr.heap.size, 0, none⟩ 1 1 [.string x] rfl rfl (cell_one_new _ _ _) (one_str _) (by have := Big_eq; unfold maxLen; omega) (by have := Big_eq; omega) (by simp; omega) ?_; intro v' w1 hown' hgrow _))
          have hb1 := ((hbel.alloc hbs _).grown hgrow (by simp; omega) (fun k hk => own_ge hown k hk))
          have hown2 := HE.out v' w1 hown' (by rw [HT.out]; exact HO.out)
          clear hown hown' HE hcell
          go_wp2
          go_roundw
          case rel => exact ⟨i + 1, hlt, by go_num, rfl, by rw [HD.out], HN2.out, hown2, hb1⟩
          case measure => simp [intOf]; omega
        | false =>
          cases hk : Op.bytesLess key.toList x.toList with
          | false =>
            have HO := Lib.hid (outK_not key x (ss.take i) hd hk)
            have HD : Hid (gtr key (ss.take (i + 1)) = false) := by show _ = _; rw [HT.out, gtr_snoc, hd, hk]; rfl
            clear hd
            go_wp2_with (first | (at_builtin; refine wpList_append_own _ rfl _ _ 23 rfl w.heap.size 9 i0 (.string ⟨#[]⟩) 1 16 Try.underlying23 hi hz0 hz1 hz2 rfl (by decide) _ _ _ rfl (hown.alloc _) ⟨wr.heap.size, 0, none⟩ 1 1 [.string x] rfl rfl (cell_one_new _ _ _) (one_str _) (by have := Big_eq; unfold maxLen; omega) (by have := Big_eq; omega) (by simp; omega) ?_; intro v' w1 hown' hgrow _))
            have hb1 := ((hbel.alloc hbs _).grown hgrow (by simp; omega) (fun k hk => own_ge hown k hk))
            have hown2 := HE.out v' w1 hown' (by rw [HT.out]; exact HO.out)
            clear hown hown' HE hcell
            go_wp2
            go_roundw
            case rel => exact ⟨i + 1, hlt, by go_num, rfl, by rw [HD.out], HN2.out, hown2, hb1⟩
            case measure => simp [intOf]; omega
          | true =>
            have HO := Lib.hid (outK_new key x (ss.take i) hd hk)
            have HD : Hid (gtr key (ss.take (i + 1)) = true) := by show _ = _; rw [HT.out, gtr_snoc, hd, hk]; rfl
            clear hd HE
            have HCELL : Hid (∀ w1 : World, Below w.heap.size w w1 → w1.cell? ⟨b, off + i, none⟩ = some (.string x)) := fun w1 hb => by
              obtain ⟨b', off', e', h2⟩ := HR.out i x HX.out
              cases e'
              have h3 : w.cell? ⟨b, off + i * 1 + 0, none⟩ = some (.string x) := h2 0 _ rfl
              rw [Nat.mul_one, Nat.add_zero] at h3
              rw [hb.cell (World.block_lt_of_cell? w _ h3)]; exact h3
            go_wp2_with (first | (at_builtin; refine wpList_append_own _ rfl (.tmp 31) (.tmp 33) 23 rfl w.heap.size 9 i0 (.string ⟨#[]⟩) 1 16 Try.underlying23 hi hz0 hz1 hz2 rfl (by decide) _ _ _ rfl (hown.alloc _) ⟨wr.heap.size, 0, none⟩ 1 1 [.string key] rfl rfl (cell_one_new _ _ _) (one_str _) (by have := Big_eq; unfold maxLen; omega) (by have := Big_eq; omega) (by simp; omega) ?_; intro v' w1 hown' hgrow _; have hb1 := ((hbel.alloc hbs _).grown hgrow (by simp; omega) (fun k hk => own_ge hown k hk)); have hs1 := hb1.size; have hcell1 := HCELL.out w1 hb1) | (at_builtin; refine wpList_append_own _ rfl (.tmp 35) (.tmp 40) 23 rfl w.heap.size 9 i0 (.string ⟨#[]⟩) 1 16 Try.underlying23 hi hz0 hz1 hz2 rfl (by decide) _ _ _ rfl (World.ownsRow.alloc (by assumption) _) ⟨_, 0, none⟩ 1 1 [.string x] rfl rfl (cell_one_new _ _ _) (one_str _) (by have := Big_eq; unfold maxLen; omega) (by have := Big_eq; omega) (by simp; omega) ?_; intro v2 w2 hown2 hgrow2 _))
            have hb2 := ((hb1.alloc hs1 _).grown hgrow2 (by simp; omega) (fun k hk => own_ge hown' k hk))
            have hown3 : w2.ownsRow w.heap.size 9 1 v2 (outK key (ss.take (i + 1))).length ((outK key (ss.take (i + 1))).map Value.string) := by
              rw [HT.out, HO.out, List.length_append, List.length_append, List.map_append, List.map_append]; exact hown2
            clear hown' hown2 hcell1
            go_wp2
            go_roundw
            case rel => exact ⟨i + 1, hlt, by go_num, rfl, by rw [HD.out], HN2.out, hown3, hb2⟩
            case measure => simp [intOf]; omega
    · have hi' : i = ss.length := by omega
      have HN2 : Hid (ss.any (fun x => x.toList == key.toList) = false) := by
        have h := HN.out; rw [hi', List.take_length] at h; exact h
      have htk : ss.take i = ss := by rw [hi', List.take_length]
      rw [htk] at hown ⊢
      have hbs := hbel.size
      clear htk HN
      cases hd : gtr key ss with
      | true =>
        have hp : putL ss key = outK key ss := by unfold putL outK; rw [if_neg (by rw [HN2.out]; simp), if_pos hd]
        go_wp2
        go_ret
        obtain ⟨A', c', rfl, h1, h2, _⟩ := rowAt_of_owns (enc := strv) (fun _ => rfl) (l := outK key ss) (by rw [flatMap_strv]; exact hown)
        rw [hp]
        exact ⟨⟨A', c', rfl, h1, h2⟩, hbel⟩
      | false =>
        have hp : putL ss key = outK key ss ++ [key] := by unfold putL outK; rw [if_neg (by rw [HN2.out]; simp), if_neg (by rw [hd]; simp)]; exact insK_no key ss hd
        have hlen : (outK key ss).length = ss.length := by unfold outK; rw [if_neg (by rw [hd]; simp)]
        rw [hlen] at hown
        clear hlen
        go_wp2_with (first | (at_builtin; refine wpList_append_own _ rfl _ _ 23 rfl w.heap.size 9 i0 (.string ⟨#[]⟩) 1 16 Try.underlying23 hi hz0 hz1 hz2 rfl (by decide) _ _ _ rfl (hown.alloc _) ⟨wr.heap.size, 0, none⟩ 1 1 [.string key] rfl rfl (cell_one_new _ _ _) (one_str _) (by have := Big_eq; unfold maxLen; omega) (by have := Big_eq; omega) (by simp; omega) ?_; intro v' w1 hown' hgrow _))
        have hb1 := ((hbel.alloc hbs _).grown hgrow (by simp; omega) (fun k hk => own_ge hown k hk))
        go_wp2
        go_ret
        obtain ⟨A', c', rfl, h1, h2, _⟩ := rowAt_of_owns (enc := strv) (fun _ => rfl) (l := outK key ss ++ [key]) (w := w1) (base := w.heap.size) (e := 9) (v := v') (by
          rw [flatMap_strv, List.length_append, List.map_append]
          have hlen : (outK key ss).length = ss.length := by unfold outK; rw [if_neg (by rw [hd]; simp)]
          rw [hlen]; exact hown')
        rw [hp]
        exact ⟨⟨A', c', rfl, h1, h2⟩, hb1⟩
end Go.Proofs.Ytnojphaipfmiiaa
