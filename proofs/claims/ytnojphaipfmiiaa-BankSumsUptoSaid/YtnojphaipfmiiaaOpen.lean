/- The law's input opened: a Book as cells and lists. -/
import Derived.Test.YtnojphaipfmiiaaRows
import Derived.Test.YtnojphaipfmiiaaRefs
import Derived.Deep.Slices
import Derived.ChangeArms
import Derived.Deep.MidRow
namespace Go.Proofs.Ytnojphaipfmiiaa
open Go.ChangeShapes Go.WideShapes Go.Deep Go.RowKit
set_option linter.unusedVariables false
set_option linter.unusedSimpArgs false
namespace bulks
theorem one_le {H : Type} (d : DataW H) : 1 ≤ Rows.uptoBulk d := by
  cases d with
  | lit l => cases l <;> simp [Rows.uptoBulk]
  | nil => simp [Rows.uptoBulk]
  | ptr d => simp [Rows.uptoBulk]
  | slice elems spare => simp [Rows.uptoBulk]
  | agg parts => simp [Rows.uptoBulk]
  | iface t d => simp [Rows.uptoBulk]
  | map entries => simp [Rows.uptoBulk]
  | held h => simp [Rows.uptoBulk]
theorem part_le {H : Type} {d : DataW H} {l : List (DataW H)} (h : d ∈ l) : Rows.uptoBulk d ≤ Rows.uptoBulkAll l := by
  induction l with
  | nil => cases h
  | cons x r ih =>
    simp only [Rows.uptoBulkAll]
    cases List.mem_cons.1 h with
    | inl e => subst e; omega
    | inr e => have := ih e; omega
theorem length_le {H : Type} (l : List (DataW H)) : l.length ≤ Rows.uptoBulkAll l := by
  induction l with
  | nil => simp [Rows.uptoBulkAll]
  | cons x r ih => have := one_le x; simp only [Rows.uptoBulkAll, List.length_cons]; omega
theorem agg_le {H : Type} {d : DataW H} {l : List (DataW H)} (h : d ∈ l) : Rows.uptoBulk d ≤ Rows.uptoBulk (.agg l) := by
  have := part_le h
  simp only [Rows.uptoBulk]
  omega
end bulks
theorem len2 {α : Type} {l : List α} (h : l.length = 2) : ∃ a0 a1, l = [a0, a1] := by
  match l, h with
  | [a0, a1], _ => exact ⟨_, _, rfl⟩
theorem len3 {α : Type} {l : List α} (h : l.length = 3) : ∃ a0 a1 a2, l = [a0, a1, a2] := by
  match l, h with
  | [a0, a1, a2], _ => exact ⟨_, _, _, rfl⟩
theorem len4 {α : Type} {l : List α} (h : l.length = 4) : ∃ a0 a1 a2 a3, l = [a0, a1, a2, a3] := by
  match l, h with
  | [a0, a1, a2, a3], _ => exact ⟨_, _, _, _, rfl⟩
theorem len7 {α : Type} {l : List α} (h : l.length = 7) : ∃ a0 a1 a2 a3 a4 a5 a6, l = [a0, a1, a2, a3, a4, a5, a6] := by
  match l, h with
  | [a0, a1, a2, a3, a4, a5, a6], _ => exact ⟨_, _, _, _, _, _, _, rfl⟩
theorem len9 {α : Type} {l : List α} (h : l.length = 9) : ∃ a0 a1 a2 a3 a4 a5 a6 a7 a8, l = [a0, a1, a2, a3, a4, a5, a6, a7, a8] := by
  match l, h with
  | [a0, a1, a2, a3, a4, a5, a6, a7, a8], _ => exact ⟨_, _, _, _, _, _, _, _, _, rfl⟩
theorem len18 {α : Type} {l : List α} (h : l.length = 18) : ∃ a0 a1 a2 a3 a4 a5 a6 a7 a8 a9 a10 a11 a12 a13 a14 a15 a16 a17, l = [a0, a1, a2, a3, a4, a5, a6, a7, a8, a9, a10, a11, a12, a13, a14, a15, a16, a17] := by
  match l, h with
  | [a0, a1, a2, a3, a4, a5, a6, a7, a8, a9, a10, a11, a12, a13, a14, a15, a16, a17], _ => exact ⟨_, _, _, _, _, _, _, _, _, _, _, _, _, _, _, _, _, _, rfl⟩
theorem len20 {α : Type} {l : List α} (h : l.length = 20) : ∃ a0 a1 a2 a3 a4 a5 a6 a7 a8 a9 a10 a11 a12 a13 a14 a15 a16 a17 a18 a19, l = [a0, a1, a2, a3, a4, a5, a6, a7, a8, a9, a10, a11, a12, a13, a14, a15, a16, a17, a18, a19] := by
  match l, h with
  | [a0, a1, a2, a3, a4, a5, a6, a7, a8, a9, a10, a11, a12, a13, a14, a15, a16, a17, a18, a19], _ => exact ⟨_, _, _, _, _, _, _, _, _, _, _, _, _, _, _, _, _, _, _, _, rfl⟩
theorem len6 {α : Type} {l : List α} (h : l.length = 6) : ∃ a0 a1 a2 a3 a4 a5, l = [a0, a1, a2, a3, a4, a5] := by
  match l, h with
  | [a0, a1, a2, a3, a4, a5], _ => exact ⟨_, _, _, _, _, _, rfl⟩
theorem len8 {α : Type} {l : List α} (h : l.length = 8) : ∃ a0 a1 a2 a3 a4 a5 a6 a7, l = [a0, a1, a2, a3, a4, a5, a6, a7] := by
  match l, h with
  | [a0, a1, a2, a3, a4, a5, a6, a7], _ => exact ⟨_, _, _, _, _, _, _, _, rfl⟩
theorem len13 {α : Type} {l : List α} (h : l.length = 13) : ∃ a0 a1 a2 a3 a4 a5 a6 a7 a8 a9 a10 a11 a12, l = [a0, a1, a2, a3, a4, a5, a6, a7, a8, a9, a10, a11, a12] := by
  match l, h with
  | [a0, a1, a2, a3, a4, a5, a6, a7, a8, a9, a10, a11, a12], _ => exact ⟨_, _, _, _, _, _, _, _, _, _, _, _, _, rfl⟩
theorem len17 {α : Type} {l : List α} (h : l.length = 17) : ∃ a0 a1 a2 a3 a4 a5 a6 a7 a8 a9 a10 a11 a12 a13 a14 a15 a16, l = [a0, a1, a2, a3, a4, a5, a6, a7, a8, a9, a10, a11, a12, a13, a14, a15, a16] := by
  match l, h with
  | [a0, a1, a2, a3, a4, a5, a6, a7, a8, a9, a10, a11, a12, a13, a14, a15, a16], _ => exact ⟨_, _, _, _, _, _, _, _, _, _, _, _, _, _, _, _, _, rfl⟩
theorem exists_list {α : Type} {p : Nat → α → Prop} (n : Nat) (h : ∀ i, i < n → ∃ a, p i a) : ∃ l : List α, l.length = n ∧ ∀ i a, l[i]? = some a → p i a := by
  induction n with
  | zero => exact ⟨[], rfl, fun i a h => by simp at h⟩
  | succ n ih =>
    obtain ⟨l, hl, hp⟩ := ih (fun i hi => h i (by omega))
    obtain ⟨a, ha⟩ := h n (by omega)
    refine ⟨l ++ [a], by simp [hl], fun i b hb => ?_⟩
    by_cases hi : i < n
    · rw [List.getElem?_append_left (by omega)] at hb
      exact hp i b hb
    · have : i = n := by
        have := (List.getElem?_eq_some_iff.1 hb).1
        simp [hl] at this
        omega
      subst this
      rw [List.getElem?_append_right (by omega)] at hb
      simp [hl] at hb
      subst hb
      exact ha
section
variable {H : Type} {enc : TypeId × Value → H} {w : World} {fuel n : Nat} {cs : List Value} {x y : DataW H × List MemPlace}
/-- A reading of the row's. -/
noncomputable abbrev Tr (enc : TypeId × Value → H) (w : World) (n : Nat) (t : TypeId) (cs : List Value) := DataW.trod enc Try.prog w 0 (fun _ => true) true n t cs

theorem open_row {α : Type} (en : α → List Value) (k : Nat) {t e : TypeId} (ht : Try.prog.underlying t = some (.slice e)) (hk : Try.prog.cellsOf e = k) (hlen : ∀ a, (en a).length = k) (h0 : 0 < k) (R : α → DataW H → Prop)
    (hel : ∀ n cs y, Tr enc w n e cs = some y → ∃ a, cs = en a ∧ R a y.1) (h : Tr enc w fuel t cs = some x) :
    ∃ A c l, cs = [.slice A l.length c] ∧ (A = none → l = [] ∧ c = 0) ∧ RowAt en k w A l ∧ l.length ≤ c ∧ l.length ≤ Rows.uptoBulk x.1 ∧ ∀ a ∈ l, ∃ d, R a d ∧ Rows.uptoBulk d ≤ Rows.uptoBulk x.1 := by
  rcases open_slice ht h with ⟨rfl, rfl⟩ | ⟨a, len, cap, m, n, D, Pl, rfl, hb, hl, hm, hmm, rfl, hi⟩
  · exact ⟨none, 0, [], rfl, fun _ => ⟨rfl, rfl⟩, fun i x hx => by simp at hx, Nat.le_refl _, Nat.zero_le _, fun a ha => by cases ha⟩
  · have hlm : len ≤ m := by rw [hmm]; simpa using hl
    obtain ⟨l, hll, hp⟩ := exists_list (α := α) (p := fun i b => w.cells? 0 (a.add (i * k)) k = some (en b) ∧ R b (D i)) len (fun i hil => by
      obtain ⟨cs', hc, ht'⟩ := hi i (by omega)
      obtain ⟨b, rfl, hR⟩ := hel _ _ _ ht'
      rw [hk] at hc
      exact ⟨b, hc, hR⟩)
    have hmem : ∀ i, i < len → D i ∈ (List.range len).map D := fun i h => List.mem_map.2 ⟨i, List.mem_range.2 h, rfl⟩
    have hbd : ∀ d, d ∈ (List.range len).map D → Rows.uptoBulk d ≤ Rows.uptoBulk (.slice ((List.range len).map D) ((List.range (m - len)).map fun j => D (len + j))) := fun d hd => by
      have := bulks.part_le hd
      simp only [Rows.uptoBulk]
      omega
    refine ⟨some a, cap, l, by rw [hll], (fun h => by cases h), fun i b hb => ?_, by omega, ?_, fun b hb => ?_⟩
    · obtain ⟨hc, -⟩ := hp i b hb
      obtain ⟨-, -, hcell⟩ := World.cells?_some hc
      have hil : i < len := by rw [← hll]; exact (List.getElem?_eq_some_iff.1 hb).1
      have hb0 : l[0]? = some (l[0]'(by omega)) := List.getElem?_eq_getElem (by omega)
      obtain ⟨hc0, -⟩ := hp 0 _ hb0
      obtain ⟨-, -, hcell0⟩ := World.cells?_some hc0
      have hs : a.spot = none := by
        have h1 := hcell0 0 h0
        rw [Nat.zero_mul] at h1
        have hpos : 0 < (en (l[0]'(by omega))).length := by rw [hlen]; exact h0
        exact World.cell?_spot (h1.trans (List.getElem?_eq_getElem hpos))
      obtain ⟨blk, off, spot⟩ := a
      have hs' : spot = none := hs
      subst hs'
      refine ⟨blk, off, rfl, fun j v hv => ?_⟩
      have hj : j < k := by rw [← hlen b]; exact (List.getElem?_eq_some_iff.1 hv).1
      have h2 := hcell j hj
      rw [Addr.add_mid, Addr.add_mid] at h2
      exact h2.trans hv
    · have := bulks.length_le ((List.range len).map D)
      simp only [List.length_map, List.length_range] at this
      simp only [Rows.uptoBulk]
      omega
    · obtain ⟨i, hil, hi2⟩ := List.mem_iff_getElem.1 hb
      obtain ⟨-, hR⟩ := hp i b (by rw [List.getElem?_eq_getElem hil, hi2])
      exact ⟨D i, hR, hbd _ (hmem i (by omega))⟩

theorem cl9 : Try.prog.cellsOf 9 = 1 := by kernel_rfl
theorem cl3 : Try.prog.cellsOf 3 = 1 := by kernel_rfl
theorem cl4 : Try.prog.cellsOf 4 = 1 := by kernel_rfl
theorem cl22 : Try.prog.cellsOf 22 = 1 := by kernel_rfl
theorem cl23 : Try.prog.cellsOf 23 = 1 := by kernel_rfl
theorem cl24 : Try.prog.cellsOf 24 = 1 := by kernel_rfl
theorem cl26 : Try.prog.cellsOf 26 = 6 := by kernel_rfl
theorem cl27 : Try.prog.cellsOf 27 = 1 := by kernel_rfl
theorem cl28 : Try.prog.cellsOf 28 = 1 := by kernel_rfl
theorem cl29 : Try.prog.cellsOf 29 = 1 := by kernel_rfl
theorem cl31 : Try.prog.cellsOf 31 = 13 := by kernel_rfl
theorem cl32 : Try.prog.cellsOf 32 = 1 := by kernel_rfl
theorem cl34 : Try.prog.cellsOf 34 = 3 := by kernel_rfl
theorem cl36 : Try.prog.cellsOf 36 = 17 := by kernel_rfl
theorem cl49 : Try.prog.cellsOf 49 = 2 := by kernel_rfl
theorem cl50 : Try.prog.cellsOf 50 = 1 := by kernel_rfl
theorem cl52 : Try.prog.cellsOf 52 = 7 := by kernel_rfl
theorem cl55 : Try.prog.cellsOf 55 = 1 := by kernel_rfl
theorem cl60 : Try.prog.cellsOf 60 = 2 := by kernel_rfl
theorem cl63 : Try.prog.cellsOf 63 = 1 := by kernel_rfl
theorem cl65 : Try.prog.cellsOf 65 = 9 := by kernel_rfl
theorem cl67 : Try.prog.cellsOf 67 = 18 := by kernel_rfl
theorem cl69 : Try.prog.cellsOf 69 = 20 := by kernel_rfl

theorem op60 (h : Tr enc w n 60 cs = some x) : ∃ p : Pr, cs = prv p := by
  obtain ⟨xs, m, -, -, hl, hx, hg⟩ := DataW.trod_struct Try.underlying60 h
  obtain ⟨c0, c1, rfl⟩ := len2 (hl.trans cl60)
  obtain ⟨y0, y1, rfl⟩ := len2 (show xs.length = 2 from hx)
  have g0 : Tr enc w m 9 [c0] = some y0 := by simpa [cl9] using hg 0 _ rfl
  have g1 : Tr enc w m 9 [c1] = some y1 := by simpa [cl9] using hg 1 _ rfl
  obtain ⟨s0, e0, -⟩ := DataW.trod_string Try.underlying9 g0
  obtain ⟨s1, e1, -⟩ := DataW.trod_string Try.underlying9 g1
  cases e0; cases e1
  exact ⟨(s0, s1), rfl⟩
theorem op49 (h : Tr enc w n 49 cs = some x) : ∃ a b : Int, cs = [.int .u32 a, .int .u32 b] ∧ (Lit.int .u32 a).wf = true ∧ (Lit.int .u32 b).wf = true := by
  obtain ⟨xs, m, -, -, hl, hx, hg⟩ := DataW.trod_struct Try.underlying49 h
  obtain ⟨c0, c1, rfl⟩ := len2 (hl.trans cl49)
  obtain ⟨y0, y1, rfl⟩ := len2 (show xs.length = 2 from hx)
  have g0 : Tr enc w m 32 [c0] = some y0 := by simpa [cl32] using hg 0 _ rfl
  have g1 : Tr enc w m 32 [c1] = some y1 := by simpa [cl32] using hg 1 _ rfl
  obtain ⟨s0, e0, -, w0⟩ := DataW.trod_int Try.underlying32 g0
  obtain ⟨s1, e1, -, w1⟩ := DataW.trod_int Try.underlying32 g1
  cases e0; cases e1
  exact ⟨s0, s1, rfl, w0, w1⟩
theorem op34 (h : Tr enc w n 34 cs = some x) : ∃ a b c : Int, cs = [.int .u64 a, .int .u32 b, .int .u32 c] ∧ (Lit.int .u64 a).wf = true ∧ (Lit.int .u32 b).wf = true ∧ (Lit.int .u32 c).wf = true := by
  obtain ⟨xs, m, -, -, hl, hx, hg⟩ := DataW.trod_struct Try.underlying34 h
  obtain ⟨c0, c1, c2, rfl⟩ := len3 (hl.trans cl34)
  obtain ⟨y0, y1, y2, rfl⟩ := len3 (show xs.length = 3 from hx)
  have g0 : Tr enc w m 24 [c0] = some y0 := by simpa [cl24] using hg 0 _ rfl
  have g1 : Tr enc w m 32 [c1] = some y1 := by simpa [cl32] using hg 1 _ rfl
  have g2 : Tr enc w m 32 [c2] = some y2 := by simpa [cl32] using hg 2 _ rfl
  obtain ⟨s0, e0, -, w0⟩ := DataW.trod_int Try.underlying24 g0
  obtain ⟨s1, e1, -, w1⟩ := DataW.trod_int Try.underlying32 g1
  obtain ⟨s2, e2, -, w2⟩ := DataW.trod_int Try.underlying32 g2
  cases e0; cases e1; cases e2
  exact ⟨s0, s1, s2, rfl, w0, w1, w2⟩
theorem op65 (h : Tr enc w n 65 cs = some x) : ∃ (k : Int) (b1 b2 b3 : Bool) (tok key hi val : ByteArray) (lim : Int), cs = [.int .i64 k, .bool b1, .bool b2, .bool b3, .string tok, .string key, .string hi, .string val, .int .i64 lim] := by
  obtain ⟨xs, m, -, -, hl, hx, hg⟩ := DataW.trod_struct Try.underlying65 h
  obtain ⟨c0, c1, c2, c3, c4, c5, c6, c7, c8, rfl⟩ := len9 (hl.trans cl65)
  obtain ⟨y0, y1, y2, y3, y4, y5, y6, y7, y8, rfl⟩ := len9 (show xs.length = 9 from hx)
  have g0 : Tr enc w m 63 [c0] = some y0 := by simpa [cl63] using hg 0 _ rfl
  have g1 : Tr enc w m 4 [c1] = some y1 := by simpa [cl4] using hg 1 _ rfl
  have g2 : Tr enc w m 4 [c2] = some y2 := by simpa [cl4] using hg 2 _ rfl
  have g3 : Tr enc w m 4 [c3] = some y3 := by simpa [cl4] using hg 3 _ rfl
  have g4 : Tr enc w m 9 [c4] = some y4 := by simpa [cl9] using hg 4 _ rfl
  have g5 : Tr enc w m 9 [c5] = some y5 := by simpa [cl9] using hg 5 _ rfl
  have g6 : Tr enc w m 9 [c6] = some y6 := by simpa [cl9] using hg 6 _ rfl
  have g7 : Tr enc w m 9 [c7] = some y7 := by simpa [cl9] using hg 7 _ rfl
  have g8 : Tr enc w m 3 [c8] = some y8 := by simpa [cl3] using hg 8 _ rfl
  obtain ⟨s0, e0, -⟩ := DataW.trod_int Try.underlying63 g0
  obtain ⟨s1, e1, -⟩ := DataW.trod_bool Try.underlying4 g1
  obtain ⟨s2, e2, -⟩ := DataW.trod_bool Try.underlying4 g2
  obtain ⟨s3, e3, -⟩ := DataW.trod_bool Try.underlying4 g3
  obtain ⟨s4, e4, -⟩ := DataW.trod_string Try.underlying9 g4
  obtain ⟨s5, e5, -⟩ := DataW.trod_string Try.underlying9 g5
  obtain ⟨s6, e6, -⟩ := DataW.trod_string Try.underlying9 g6
  obtain ⟨s7, e7, -⟩ := DataW.trod_string Try.underlying9 g7
  obtain ⟨s8, e8, -⟩ := DataW.trod_int Try.underlying3 g8
  cases e0; cases e1; cases e2; cases e3; cases e4; cases e5; cases e6; cases e7; cases e8
  exact ⟨_, _, _, _, _, _, _, _, _, rfl⟩
/-- An answer's own list of pairs. -/
def PsAt (w : World) (a : Ans) (d : Nat) : Prop := ∃ (P : Option Addr) (n : Nat) (ps : List Pr), a.ps = .slice P ps.length n ∧ ps.length ≤ d ∧ RowAt prv 2 w P ps
theorem op67 (h : Tr enc w n 67 cs = some x) : ∃ a : Ans, cs = a.l ∧ PsAt w a (Rows.uptoBulk x.1) := by
  obtain ⟨xs, m, -, hxe, hl, hx, hg⟩ := DataW.trod_struct Try.underlying67 h
  obtain ⟨c0, c1, c2, c3, c4, c5, c6, c7, c8, c9, c10, c11, c12, c13, c14, c15, c16, c17, rfl⟩ := len18 (hl.trans cl67)
  obtain ⟨y0, y1, y2, y3, y4, y5, y6, rfl⟩ := len7 (show xs.length = 7 from hx)
  have g0 : Tr enc w m 32 [c0] = some y0 := by simpa [cl32] using hg 0 _ rfl
  have g1 : Tr enc w m 49 [c1, c2] = some y1 := by simpa [cl49] using hg 1 _ rfl
  have g2 : Tr enc w m 65 [c3, c4, c5, c6, c7, c8, c9, c10, c11] = some y2 := by simpa [cl65] using hg 2 _ rfl
  have g3 : Tr enc w m 22 [c12] = some y3 := by simpa [cl22] using hg 3 _ rfl
  have g4 : Tr enc w m 34 [c13, c14, c15] = some y4 := by simpa [cl34] using hg 4 _ rfl
  have g5 : Tr enc w m 55 [c16] = some y5 := by simpa [cl55] using hg 5 _ rfl
  have g6 : Tr enc w m 9 [c17] = some y6 := by simpa [cl9] using hg 6 _ rfl
  obtain ⟨s0, e0, -⟩ := DataW.trod_int Try.underlying32 g0
  obtain ⟨s1, s2, e1, -⟩ := op49 g1
  obtain ⟨s3, s4, s5, s6, s7, s8, s9, s10, s11, e2⟩ := op65 g2
  obtain ⟨s12, e3, -⟩ := DataW.trod_int Try.underlying22 g3
  obtain ⟨s13, s14, s15, e4, -⟩ := op34 g4
  obtain ⟨A, c, l, e5, -, hr, -, hb, -⟩ := open_row prv 2 Try.underlying55 cl60 (fun _ => rfl) (by decide) (fun _ _ => True) (fun _ _ _ h => (op60 h).imp fun p hp => ⟨hp, trivial⟩) g5
  obtain ⟨s17, e6, -⟩ := DataW.trod_string Try.underlying9 g6
  cases e0; cases e1; cases e2; cases e3; cases e4; cases e5; cases e6
  refine ⟨⟨s0, s1, s2, s3, s4, s5, s6, s7, s8, s9, s10, s11, s12, s13, s14, s15, .slice A l.length c, s17⟩, rfl, A, c, l, rfl, Nat.le_trans hb ?_, hr⟩
  rw [hxe]
  exact bulks.agg_le (by simp)
theorem op69 (h : Tr enc w n 69 cs = some x) : ∃ e : Evt, cs = e.l ∧ PsAt w e.a (Rows.uptoBulk x.1) := by
  obtain ⟨xs, m, -, hxe, hl, hx, hg⟩ := DataW.trod_struct Try.underlying69 h
  obtain ⟨c0, c1, r, rfl, hr'⟩ : ∃ c0 c1 r, cs = c0 :: c1 :: r ∧ r.length = 18 := by
    obtain ⟨a0, a1, a2, a3, a4, a5, a6, a7, a8, a9, a10, a11, a12, a13, a14, a15, a16, a17, a18, a19, rfl⟩ := len20 (hl.trans cl69)
    exact ⟨_, _, _, rfl, rfl⟩
  obtain ⟨y0, y1, y2, rfl⟩ := len3 (show xs.length = 3 from hx)
  have g0 : Tr enc w m 3 [c0] = some y0 := by simpa [cl3] using hg 0 _ rfl
  have g1 : Tr enc w m 3 [c1] = some y1 := by simpa [cl3] using hg 1 _ rfl
  have g2 : Tr enc w m 67 r = some y2 := by
    have := hg 2 _ rfl
    simpa [cl67, List.take_of_length_le (Nat.le_of_eq hr')] using this
  obtain ⟨s0, e0, -⟩ := DataW.trod_int Try.underlying3 g0
  obtain ⟨s1, e1, -⟩ := DataW.trod_int Try.underlying3 g1
  obtain ⟨a, rfl, P, n', ps, h1, h2, h3⟩ := op67 g2
  cases e0; cases e1
  refine ⟨⟨s0, s1, a⟩, rfl, P, n', ps, h1, Nat.le_trans h2 ?_, h3⟩
  rw [hxe]
  exact bulks.agg_le (by simp)
theorem wf32 {a : Int} (h : (Lit.int .u32 a).wf = true) : 0 ≤ a ∧ a < 4294967296 := by
  have : 0 ≤ a ∧ a ≤ 4294967295 := by simpa [Lit.wf, IntKind.min, IntKind.max, IntKind.signed, IntKind.bits] using h
  omega
theorem op52 (h : Tr enc w n 52 cs = some x) : ∃ e : Ent, cs = e.v := by
  obtain ⟨xs, m, -, hxe, hl, hx, hg⟩ := DataW.trod_struct Try.underlying52 h
  obtain ⟨c0, c1, c2, c3, c4, c5, c6, rfl⟩ := len7 (hl.trans cl52)
  obtain ⟨y0, y1, y2, y3, rfl⟩ := len4 (show xs.length = 4 from hx)
  have g0 : Tr enc w m 49 [c0, c1] = some y0 := by simpa [cl49] using hg 0 _ rfl
  have g1 : Tr enc w m 32 [c2] = some y1 := by simpa [cl32] using hg 1 _ rfl
  have g2 : Tr enc w m 50 [c3] = some y2 := by simpa [cl50] using hg 2 _ rfl
  have g3 : Tr enc w m 34 [c4, c5, c6] = some y3 := by simpa [cl34] using hg 3 _ rfl
  obtain ⟨s0, s1, e0, w0, w1⟩ := op49 g0
  obtain ⟨s2, e1, -⟩ := DataW.trod_int Try.underlying32 g1
  obtain ⟨s3, e2, -⟩ := DataW.trod_int Try.underlying50 g2
  obtain ⟨s4, s5, s6, e3, -⟩ := op34 g3
  cases e0; cases e1; cases e2; cases e3
  exact ⟨⟨s0, s1, s2, s3, s4, s5, s6, (wf32 w0).1, (wf32 w0).2, (wf32 w1).1, (wf32 w1).2⟩, rfl⟩
theorem op9 (h : Tr enc w n 9 cs = some x) : ∃ s : ByteArray, cs = strv s := by
  obtain ⟨s, e, -⟩ := DataW.trod_string Try.underlying9 h
  exact ⟨s, e⟩
/-- Events in memory, each with its own pairs, no more than B of each. -/
def EvsAt (w : World) (A : Option Addr) (es : List Evt) (B : Nat) : Prop := RowAt Evt.l 20 w A es ∧ es.length ≤ B ∧ ∀ x ∈ es, PsAt w x.a B
theorem evs_of {t : TypeId} (ht : Try.prog.underlying t = some (.slice 69)) (h : Tr enc w n t cs = some x) :
    ∃ A c l, cs = [.slice A l.length c] ∧ (A = none → l = [] ∧ c = 0) ∧ EvsAt w A l (Rows.uptoBulk x.1) := by
  obtain ⟨A, c, l, e, h0, hr, -, hb, hall⟩ := open_row Evt.l 20 ht cl69 (fun _ => rfl) (by decide) (fun a d => PsAt w a.a (Rows.uptoBulk d)) (fun _ _ _ h => op69 h) h
  refine ⟨A, c, l, e, h0, hr, hb, fun a ha => ?_⟩
  obtain ⟨d, ⟨P, m, ps, h1, h2, h3⟩, hd⟩ := hall a ha
  exact ⟨P, m, ps, h1, Nat.le_trans h2 hd, h3⟩
theorem EvsAt.mono {A : Option Addr} {es : List Evt} {B C : Nat} (h : EvsAt w A es B) (hBC : B ≤ C) : EvsAt w A es C :=
  ⟨h.1, Nat.le_trans h.2.1 hBC, fun x hx => by
    obtain ⟨P, m, ps, h1, h2, h3⟩ := h.2.2 x hx
    exact ⟨P, m, ps, h1, Nat.le_trans h2 hBC, h3⟩⟩
/-- A result in memory: what the law reads of it. -/
structure ResAt (w : World) (r : Rs) (es ws : List Evt) (cs : List Ent) (B : Nat) : Prop where
  evn : r.evn = es.length
  cmn : r.cmn = cs.length
  ev0 : r.evA = none → r.evn = 0 ∧ r.evc = 0
  cm0 : r.cmA = none → r.cmn = 0 ∧ r.cmc = 0
  ev : EvsAt w r.evA es B
  cm : RowAt Ent.v 7 w r.cmA cs
  cml : cs.length ≤ B
  wt : ∃ A c, r.wt = .slice A ws.length c ∧ EvsAt w A ws B
  st : ∃ k : Int, r.st = .int .i64 k
  fl : ∃ k : Int, r.fl = .int .i64 k
  sps : ∃ k : Int, r.sps = .int .i64 k
  sh : ∃ A n c, r.sh = .slice A n c
  one : r.v.all (·.oneCell') = true
theorem op26 (h : Tr enc w n 26 cs = some x) : ∃ (a b : Int) (A : Option Addr) (k c : Nat) (d e f : Int), cs = [.int .i64 a, .int .i64 b, .slice A k c, .int .i64 d, .int .i64 e, .int .u64 f] := by
  obtain ⟨xs, m, -, hxe, hl, hx, hg⟩ := DataW.trod_struct Try.underlying26 h
  obtain ⟨c0, c1, c2, c3, c4, c5, rfl⟩ := len6 (hl.trans cl26)
  obtain ⟨y0, y1, y2, y3, y4, y5, rfl⟩ := len6 (show xs.length = 6 from hx)
  have g0 : Tr enc w m 3 [c0] = some y0 := by simpa [cl3] using hg 0 _ rfl
  have g1 : Tr enc w m 3 [c1] = some y1 := by simpa [cl3] using hg 1 _ rfl
  have g2 : Tr enc w m 23 [c2] = some y2 := by simpa [cl23] using hg 2 _ rfl
  have g3 : Tr enc w m 3 [c3] = some y3 := by simpa [cl3] using hg 3 _ rfl
  have g4 : Tr enc w m 3 [c4] = some y4 := by simpa [cl3] using hg 4 _ rfl
  have g5 : Tr enc w m 24 [c5] = some y5 := by simpa [cl24] using hg 5 _ rfl
  obtain ⟨s0, e0, -⟩ := DataW.trod_int Try.underlying3 g0
  obtain ⟨s1, e1, -⟩ := DataW.trod_int Try.underlying3 g1
  obtain ⟨A, c, l, e2, -⟩ := open_row strv 1 Try.underlying23 cl9 (fun _ => rfl) (by decide) (fun _ _ => True) (fun _ _ _ h => (op9 h).imp fun p hp => ⟨hp, trivial⟩) g2
  obtain ⟨s3, e3, -⟩ := DataW.trod_int Try.underlying3 g3
  obtain ⟨s4, e4, -⟩ := DataW.trod_int Try.underlying3 g4
  obtain ⟨s5, e5, -⟩ := DataW.trod_int Try.underlying24 g5
  cases e0; cases e1; cases e2; cases e3; cases e4; cases e5
  exact ⟨_, _, _, _, _, _, _, _, rfl⟩
theorem op31 (h : Tr enc w n 31 cs = some x) : ∃ (r : Rs) (es ws : List Evt) (es2 : List Ent), cs = r.v.toList ∧ ResAt w r es ws es2 (Rows.uptoBulk x.1) := by
  obtain ⟨xs, m, -, hxe, hl, hx, hg⟩ := DataW.trod_struct Try.underlying31 h
  obtain ⟨c0, c1, c2, c3, c4, c5, c6, c7, c8, c9, c10, c11, c12, rfl⟩ := len13 (hl.trans cl31)
  obtain ⟨y0, y1, y2, y3, y4, y5, y6, y7, rfl⟩ := len8 (show xs.length = 8 from hx)
  have g0 : Tr enc w m 22 [c0] = some y0 := by simpa [cl22] using hg 0 _ rfl
  have g1 : Tr enc w m 26 [c1, c2, c3, c4, c5, c6] = some y1 := by simpa [cl26] using hg 1 _ rfl
  have g2 : Tr enc w m 27 [c7] = some y2 := by simpa [cl27] using hg 2 _ rfl
  have g3 : Tr enc w m 27 [c8] = some y3 := by simpa [cl27] using hg 3 _ rfl
  have g4 : Tr enc w m 28 [c9] = some y4 := by simpa [cl28] using hg 4 _ rfl
  have g5 : Tr enc w m 29 [c10] = some y5 := by simpa [cl29] using hg 5 _ rfl
  have g6 : Tr enc w m 3 [c11] = some y6 := by simpa [cl3] using hg 6 _ rfl
  have g7 : Tr enc w m 3 [c12] = some y7 := by simpa [cl3] using hg 7 _ rfl
  obtain ⟨s0, e0, -⟩ := DataW.trod_int Try.underlying22 g0
  obtain ⟨s1, s2, A3, k3, c3', s4, s5, s6, e1⟩ := op26 g1
  obtain ⟨A7, cp7, l7, e2, n7, h7⟩ := evs_of Try.underlying27 g2
  obtain ⟨A8, cp8, l8, e3, n8, h8⟩ := evs_of Try.underlying27 g3
  obtain ⟨A9, cp9, l9, e4, n9, h9, -, hb9, -⟩ := open_row Ent.v 7 Try.underlying28 cl52 (fun _ => rfl) (by decide) (fun _ _ => True) (fun _ _ _ h => (op52 h).imp fun p hp => ⟨hp, trivial⟩) g4
  obtain ⟨A10, k10, cp10, e5⟩ : ∃ A n c, [c10] = [Value.slice A n c] := by
    rcases open_slice Try.underlying29 g5 with ⟨e, -⟩ | ⟨a, len, cap, -, -, -, -, e, -⟩
    · exact ⟨_, _, _, e⟩
    · exact ⟨_, _, _, e⟩
  obtain ⟨s11, e6, -⟩ := DataW.trod_int Try.underlying3 g6
  obtain ⟨s12, e7, -⟩ := DataW.trod_int Try.underlying3 g7
  cases e0; cases e1; cases e2; cases e3; cases e4; cases e5; cases e6; cases e7
  have b7 : Rows.uptoBulk y2.1 ≤ Rows.uptoBulk x.1 := by rw [hxe]; exact bulks.agg_le (by simp)
  have b8 : Rows.uptoBulk y3.1 ≤ Rows.uptoBulk x.1 := by rw [hxe]; exact bulks.agg_le (by simp)
  have b9 : Rows.uptoBulk y4.1 ≤ Rows.uptoBulk x.1 := by rw [hxe]; exact bulks.agg_le (by simp)
  refine ⟨⟨.int .i64 s0, .int .i64 s1, .int .i64 s2, .slice A3 k3 c3', .int .i64 s4, .int .i64 s5, .int .u64 s6, A7, l7.length, cp7, .slice A8 l8.length cp8, A9, l9.length, cp9, .slice A10 k10 cp10, .int .i64 s11, .int .i64 s12⟩, l7, l8, l9, rfl, ?_⟩
  exact { evn := rfl, cmn := rfl, ev0 := fun h => by obtain ⟨rfl, h2⟩ := n7 h; exact ⟨rfl, h2⟩, cm0 := fun h => by obtain ⟨rfl, h2⟩ := n9 h; exact ⟨rfl, h2⟩, ev := h7.mono b7, cm := h9, cml := Nat.le_trans hb9 b9, wt := ⟨A8, cp8, rfl, h8.mono b8⟩, st := ⟨_, rfl⟩, fl := ⟨_, rfl⟩, sps := ⟨_, rfl⟩, sh := ⟨_, _, _, rfl⟩, one := by simp [Rs.v, Value.oneCell'] }
theorem ResAt.mono {r : Rs} {es ws : List Evt} {l : List Ent} {B C : Nat} (h : ResAt w r es ws l B) (hBC : B ≤ C) : ResAt w r es ws l C :=
  { evn := h.evn, cmn := h.cmn, ev0 := h.ev0, cm0 := h.cm0, ev := h.ev.mono hBC, cm := h.cm, cml := Nat.le_trans h.cml hBC, wt := by obtain ⟨A, c, h1, h2⟩ := h.wt; exact ⟨A, c, h1, h2.mono hBC⟩, st := h.st, fl := h.fl, sps := h.sps, sh := h.sh, one := h.one }
/-- The law's input. -/
theorem op36 (h : Tr enc w n 36 cs = some x) : ∃ (r : Rs) (es ws : List Evt) (es2 : List Ent) (A : Option Addr) (accs : List ByteArray) (cA : Nat) (a b c : Int),
    cs = r.v.toList ++ [.slice A accs.length cA, .int .u64 a, .int .u32 b, .int .u32 c] ∧ ResAt w r es ws es2 (Rows.uptoBulk x.1) ∧ RowAt strv 1 w A accs ∧ (A = none → accs = [] ∧ cA = 0) ∧ accs.length ≤ Rows.uptoBulk x.1 := by
  obtain ⟨xs, m, -, hxe, hl, hx, hg⟩ := DataW.trod_struct Try.underlying36 h
  obtain ⟨c0, c1, c2, c3, c4, c5, c6, c7, c8, c9, c10, c11, c12, c13, c14, c15, c16, rfl⟩ := len17 (hl.trans cl36)
  obtain ⟨y0, y1, y2, rfl⟩ := len3 (show xs.length = 3 from hx)
  have g0 : Tr enc w m 31 [c0, c1, c2, c3, c4, c5, c6, c7, c8, c9, c10, c11, c12] = some y0 := by simpa [cl31] using hg 0 _ rfl
  have g1 : Tr enc w m 23 [c13] = some y1 := by simpa [cl23] using hg 1 _ rfl
  have g2 : Tr enc w m 34 [c14, c15, c16] = some y2 := by simpa [cl34] using hg 2 _ rfl
  obtain ⟨r, es, ws, es2, e0, hr⟩ := op31 g0
  obtain ⟨A, cA, accs, e1, n1, h1, -, hb1, -⟩ := open_row strv 1 Try.underlying23 cl9 (fun _ => rfl) (by decide) (fun _ _ => True) (fun _ _ _ h => (op9 h).imp fun p hp => ⟨hp, trivial⟩) g1
  obtain ⟨a, b, c, e2, -⟩ := op34 g2
  cases e1; cases e2
  have b0 : Rows.uptoBulk y0.1 ≤ Rows.uptoBulk x.1 := by rw [hxe]; exact bulks.agg_le (by simp)
  have b1 : Rows.uptoBulk y1.1 ≤ Rows.uptoBulk x.1 := by rw [hxe]; exact bulks.agg_le (by simp)
  refine ⟨r, es, ws, es2, A, accs, cA, a, b, c, by rw [← e0]; rfl, hr.mono b0, h1, n1, Nat.le_trans hb1 b1⟩
end
end Go.Proofs.Ytnojphaipfmiiaa
