/- Contracts of BankSums' functions without loops, for every input. No condition but that a transaction's two numbers are of 32 bits. -/
import Derived.Test.YtnojphaipfmiiaaBase
namespace Go.Proofs.Ytnojphaipfmiiaa
open Go.RowKit Go.Sort
set_option linter.unusedVariables false
set_option linter.unusedSimpArgs false

theorem Less_any (a b c d e f : Int) (w : World) :
    Calls Try.prog 23 #[.agg #[.int .u64 a, .int .u32 b, .int .u32 c], .agg #[.int .u64 d, .int .u32 e, .int .u32 f]] w
     fun r w' => r = .returned (.bool (sless a b c d e f)) ∧ Gr w w' := by
  by_cases h1 : a = d
  · by_cases h2 : b = e
    · have q : sless a b c d e f = decide (c < f) := by simp [sless, h1, h2]
      rw [q]; subst h1; subst h2; clear q
      go_enter Try.func23, Try.ntmps23
      go_wp2
      go_ret
      exact ⟨rfl, ((Gr.refl _).alloc _).alloc _⟩
    · have q : sless a b c d e f = decide (b < e) := by simp [sless, h1, h2]
      rw [q]; subst h1; clear q
      have t := bne_iff_ne.2 h2
      go_enter Try.func23, Try.ntmps23
      go_wp2
      go_ret
      exact ⟨rfl, ((Gr.refl _).alloc _).alloc _⟩
  · have q : sless a b c d e f = decide (a < d) := by simp [sless, h1]
    rw [q]; clear q
    have t := bne_iff_ne.2 h1
    go_enter Try.func23, Try.ntmps23
    go_wp2
    go_ret
    exact ⟨rfl, ((Gr.refl _).alloc _).alloc _⟩

theorem below_any (a b c d e f : Int) (w : World) :
    Calls Try.prog 46 #[.agg #[.int .u64 a, .int .u32 b, .int .u32 c], .agg #[.int .u64 d, .int .u32 e, .int .u32 f]] w
     fun r w' => r = .returned (.bool (sless a b c d e f)) ∧ Gr w w' := by
  by_cases h1 : a = d
  · by_cases h2 : b = e
    · have q : sless a b c d e f = decide (c < f) := by simp [sless, h1, h2]
      rw [q]; subst h1; subst h2; clear q
      go_enter Try.func46, Try.ntmps46
      go_wp2
      go_ret
      exact ⟨rfl, ((Gr.refl _).alloc _).alloc _⟩
    · have q : sless a b c d e f = decide (b < e) := by simp [sless, h1, h2]
      rw [q]; subst h1; clear q
      have t := bne_iff_ne.2 h2
      go_enter Try.func46, Try.ntmps46
      go_wp2
      go_ret
      exact ⟨rfl, ((Gr.refl _).alloc _).alloc _⟩
  · have q : sless a b c d e f = decide (a < d) := by simp [sless, h1]
    rw [q]; clear q
    have t := bne_iff_ne.2 h1
    go_enter Try.func46, Try.ntmps46
    go_wp2
    go_ret
    exact ⟨rfl, ((Gr.refl _).alloc _).alloc _⟩

attribute [local go_sem high] eq34 eq49
def scmp (a b c d e f : Int) : Int := if a = d ∧ b = e ∧ c = f then 0 else if sless a b c d e f = true then -1 else 1

theorem Compare_any (a b c d e f : Int) (w : World) :
    Calls Try.prog 30 #[.agg #[.int .u64 a, .int .u32 b, .int .u32 c], .agg #[.int .u64 d, .int .u32 e, .int .u32 f]] w
     fun r w' => r = .returned (.int .i64 (scmp a b c d e f)) ∧ Gr w w' := by
  by_cases h1 : a = d ∧ b = e ∧ c = f
  · obtain ⟨rfl, rfl, rfl⟩ := h1
    have q : scmp a b c a b c = 0 := by simp [scmp]
    rw [q]; clear q
    go_enter Try.func30, Try.ntmps30
    go_wp2
    go_ret
    exact ⟨rfl, ((Gr.refl _).alloc _).alloc _⟩
  · have q : scmp a b c d e f = if sless a b c d e f = true then -1 else 1 := by simp [scmp, h1]
    rw [q]; clear q
    have hl := Less_any a b c d e f
    have t : (a == d && (b == e && c == f)) = false := by simp [h1]; exact fun x y z => h1 ⟨x, y, z⟩
    generalize sless a b c d e f = q at *
    have HL := Lib.hid hl
    clear hl h1
    cases q
    · go_enter Try.func30, Try.ntmps30
      go_wp2_with fail
      refine (HL.out _).mono ?_
      rintro e1 w1 ⟨rfl, g1⟩
      go_wp2
      go_ret
      exact ⟨rfl, (((Gr.refl _).alloc _).alloc _).trans g1⟩
    · go_enter Try.func30, Try.ntmps30
      go_wp2_with fail
      refine (HL.out _).mono ?_
      rintro e1 w1 ⟨rfl, g1⟩
      go_wp2
      go_ret
      exact ⟨rfl, (((Gr.refl _).alloc _).alloc _).trans g1⟩

theorem or_high (a b : Int) (h0 : 0 ≤ a ∧ a < 4294967296) (h1 : 0 ≤ b ∧ b < 4294967296) : bits BinOp.or IntKind.u64 (a * 4294967296) b = a * 4294967296 + b := by
  obtain ⟨x, rfl⟩ := Int.eq_ofNat_of_zero_le h0.1
  obtain ⟨y, rfl⟩ := Int.eq_ofNat_of_zero_le h1.1
  have hx : x < 4294967296 := by omega
  have hy : y < 4294967296 := by omega
  have e : ((x : Int) * 4294967296) = ((x * 4294967296 : Nat) : Int) := by omega
  rw [e, u64_or_nat (x * 4294967296) y (by omega) (by omega)]
  have := Nat.two_pow_add_eq_or_of_lt (i := 32) (b := y) (by omega) x
  rw [Nat.mul_comm x, show (4294967296 : Nat) = 2 ^ 32 from rfl, ← this]
  omega
def tcmp (a b c d : Int) : Int := if a * 4294967296 + b < c * 4294967296 + d then -1 else if c * 4294967296 + d < a * 4294967296 + b then 1 else 0
theorem compareTxn_any (a b c d : Int) (w : World) (h1 : 0 ≤ a ∧ a < 4294967296) (h2 : 0 ≤ b ∧ b < 4294967296) (h3 : 0 ≤ c ∧ c < 4294967296) (h4 : 0 ≤ d ∧ d < 4294967296) :
    Calls Try.prog 31 #[.agg #[.int .u32 a, .int .u32 b], .agg #[.int .u32 c, .int .u32 d]] w
     fun r w' => r = .returned (.int .i64 (tcmp a b c d)) ∧ Gr w w' := by
  have o1 := or_high a b h1 h2
  have o2 := or_high c d h3 h4
  have B : Hid (0 ≤ a ∧ 0 ≤ b ∧ 0 ≤ c ∧ 0 ≤ d) := ⟨h1.1, h2.1, h3.1, h4.1⟩
  rcases (show a * 4294967296 + b < c * 4294967296 + d ∨ c * 4294967296 + d < a * 4294967296 + b ∨ (¬ a * 4294967296 + b < c * 4294967296 + d ∧ ¬ c * 4294967296 + d < a * 4294967296 + b) from by omega) with h | h | ⟨h, h'⟩
  · have q : tcmp a b c d = -1 := by rw [tcmp, if_pos h]
    rw [q]; clear q
    go_enter Try.func31, Try.ntmps31
    go_wp2
    go_quiet (fail)
    go_wp2
    go_ret
    exact ⟨rfl, (((Gr.refl _).alloc _).alloc _).drewN _⟩
  · have q : tcmp a b c d = 1 := by rw [tcmp, if_neg (by omega), if_pos h]
    rw [q]; clear q
    have h' : ¬ a * 4294967296 + b < c * 4294967296 + d := by omega
    go_enter Try.func31, Try.ntmps31
    go_wp2
    go_quiet (fail)
    go_wp2
    go_ret
    exact ⟨rfl, (((Gr.refl _).alloc _).alloc _).drewN _⟩
  · have q : tcmp a b c d = 0 := by rw [tcmp, if_neg h, if_neg h']
    rw [q]; clear q
    go_enter Try.func31, Try.ntmps31
    go_wp2
    go_quiet (fail)
    go_wp2
    go_ret
    exact ⟨rfl, (((Gr.refl _).alloc _).alloc _).drewN _⟩

def ecmp (x y : Ent) : Int := if scmp x.w x.l x.n y.w y.l y.n ≠ 0 then scmp x.w x.l x.n y.w y.l y.n else tcmp x.c x.s y.c y.s
theorem read1_any (x y : Ent) (w : World) :
    Calls Try.prog 29 #[.agg x.v.toArray, .agg y.v.toArray] w
     fun r w' => r = .returned (.int .i64 (ecmp x y)) ∧ Gr w w' := by
  obtain ⟨a1, a2, a3, a4, a5, a6, a7, hx⟩ := x
  obtain ⟨b1, b2, b3, b4, b5, b6, b7, hy⟩ := y
  simp only [Ent.v, ecmp]
  have h1 := Compare_any a5 a6 a7 b5 b6 b7
  have h2 := fun w => compareTxn_any a1 a2 b1 b2 w (by omega) (by omega) (by omega) (by omega)
  generalize scmp a5 a6 a7 b5 b6 b7 = q at *
  generalize tcmp a1 a2 b1 b2 = q2 at *
  have H1 := Lib.hid h1
  have H2 := Lib.hid h2
  clear h1 h2 hx hy
  by_cases hq : q = 0
  · rw [if_neg (by simpa using hq)]
    subst hq
    go_enter Try.func29, Try.ntmps29
    go_wp2_with fail
    refine (H1.out _).mono ?_
    rintro e1 w1 ⟨rfl, g1⟩
    obtain ⟨hc, hf⟩ := bcell g1.below
    go_wp2_with fail
    refine (H2.out _).mono ?_
    rintro e1 w2 ⟨rfl, g2⟩
    go_wp2
    go_ret
    exact ⟨rfl, ((((Gr.refl _).alloc _).alloc _).trans g1).trans g2⟩
  · rw [if_pos hq]
    have t := bne_iff_ne.2 hq
    clear hq
    go_enter Try.func29, Try.ntmps29
    go_wp2_with fail
    refine (H1.out _).mono ?_
    rintro e1 w1 ⟨rfl, g1⟩
    obtain ⟨hc, hf⟩ := bcell g1.below
    go_wp2_with fail
    go_ret
    exact ⟨rfl, (((Gr.refl _).alloc _).alloc _).trans g1⟩

/-- A pair of texts: its key and its value. -/
abbrev Pr := ByteArray × ByteArray
def prv (p : Pr) : List Value := [.string p.1, .string p.2]
def pcmp (x y : Pr) : Int := if Op.bytesLess x.1.toList y.1.toList = true then -1 else 1
theorem within1_any (x y : Pr) (w : World) :
    Calls Try.prog 36 #[.agg (prv x).toArray, .agg (prv y).toArray] w
     fun r w' => r = .returned (.int .i64 (pcmp x y)) ∧ Gr w w' := by
  obtain ⟨a, a'⟩ := x
  obtain ⟨b, b'⟩ := y
  simp only [prv, pcmp]
  by_cases h : Op.bytesLess a.toList b.toList = true
  · rw [if_pos h]
    go_enter Try.func36, Try.ntmps36
    go_wp2
    go_ret
    exact ⟨rfl, ((Gr.refl _).alloc _).alloc _⟩
  · rw [if_neg h]
    have h := eq_false_of_ne_true h
    go_enter Try.func36, Try.ntmps36
    go_wp2
    go_ret
    exact ⟨rfl, ((Gr.refl _).alloc _).alloc _⟩

theorem State1_any (a b c d e f : Int) (g : Nat) (w : World) (h0 : w.cell? ⟨g, 0, none⟩ = some (.int .u64 a)) (h1 : w.cell? ⟨g, 1, none⟩ = some (.int .u32 b)) (h2 : w.cell? ⟨g, 2, none⟩ = some (.int .u32 c)) :
    Calls Try.prog 22 #[.agg #[.int .u64 d, .int .u32 e, .int .u32 f], .pointer (some ⟨g, 0, none⟩)] w
     fun r w' => r = .returned (.bool (!sless a b c d e f)) ∧ Gr w w' := by
  have hl := Less_any a b c d e f
  generalize sless a b c d e f = q at *
  have HL := Lib.hid hl
  clear hl
  have hg : g < w.heap.size := World.block_lt_of_cell? w _ h0
  go_enter Try.func22, Try.ntmps22
  go_wp2_with fail
  refine (HL.out _).mono ?_
  rintro e1 w1 ⟨rfl, g1⟩
  go_wp2
  go_ret
  exact ⟨rfl, ((Gr.refl _).alloc _).trans g1⟩

def wrB (a : Ans) (e f : Int) : Bool := decide (a.t1 = e) && decide (a.t2 = f) && decide (a.st = 0) && (decide (a.k = 4) || decide (a.k = 5))
theorem writes_any (a : Ans) (e f : Int) (w : World) :
    Calls Try.prog 43 #[.agg a.l.toArray, .agg #[.int .u32 e, .int .u32 f]] w
     fun r w' => r = .returned (.bool (wrB a e f)) ∧ Gr w w' := by
  obtain ⟨c, t1, t2, k, b1, b2, b3, tok, key, hi, val, lim, st, wl, lg, nd, ps, tk⟩ := a
  have q0 : wrB ⟨c, t1, t2, k, b1, b2, b3, tok, key, hi, val, lim, st, wl, lg, nd, ps, tk⟩ e f = (decide (t1 = e) && decide (t2 = f) && decide (st = 0) && (decide (k = 4) || decide (k = 5))) := rfl
  simp only [Ans.l]
  generalize wrB ⟨c, t1, t2, k, b1, b2, b3, tok, key, hi, val, lim, st, wl, lg, nd, ps, tk⟩ e f = q at *
  by_cases h1 : t1 = e ∧ t2 = f
  · obtain ⟨rfl, rfl⟩ := h1
    by_cases h3 : st = 0
    · subst h3
      by_cases h4 : k = 4
      · obtain rfl : q = true := by simp [q0, h4]
        subst h4; clear q0
        go_enter Try.func43, Try.ntmps43
        go_wp2
        go_ret
        exact ⟨rfl, ((Gr.refl _).alloc _).alloc _⟩
      · have h4' := beq_eq_false_iff_ne.2 h4
        by_cases h5 : k = 5
        · obtain rfl : q = true := by simp [q0, h5]
          subst h5; clear q0 h4 h4'
          go_enter Try.func43, Try.ntmps43
          go_wp2
          go_ret
          exact ⟨rfl, ((Gr.refl _).alloc _).alloc _⟩
        · obtain rfl : q = false := by simp [q0, h4, h5]
          have h5' := beq_eq_false_iff_ne.2 h5
          clear q0 h4 h5
          go_enter Try.func43, Try.ntmps43
          go_wp2
          go_ret
          exact ⟨rfl, ((Gr.refl _).alloc _).alloc _⟩
    · obtain rfl : q = false := by simp [q0, h3]
      have h3' := beq_eq_false_iff_ne.2 h3
      clear q0 h3
      go_enter Try.func43, Try.ntmps43
      go_wp2
      go_ret
      exact ⟨rfl, ((Gr.refl _).alloc _).alloc _⟩
  · have h2 : (t1 == e && t2 == f) = false := by simp; exact fun x y => h1 ⟨x, y⟩
    obtain rfl : q = false := by rw [q0]; simp; intro x y; exact absurd ⟨x, y⟩ h1
    clear q0 h1
    go_enter Try.func43, Try.ntmps43
    go_wp2
    go_ret
    exact ⟨rfl, ((Gr.refl _).alloc _).alloc _⟩

def isW (a : Ans) : Bool := decide (a.st = 0) && (decide (a.k = 4) || decide (a.k = 5))
theorem isWrite_any (a : Ans) (w : World) :
    Calls Try.prog 32 #[.agg a.l.toArray] w
     fun r w' => r = .returned (.bool (isW a)) ∧ Gr w w' := by
  obtain ⟨c, t1, t2, k, b1, b2, b3, tok, key, hi, val, lim, st, wl, lg, nd, ps, tk⟩ := a
  have q0 : isW ⟨c, t1, t2, k, b1, b2, b3, tok, key, hi, val, lim, st, wl, lg, nd, ps, tk⟩ = (decide (st = 0) && (decide (k = 4) || decide (k = 5))) := rfl
  simp only [Ans.l]
  generalize isW ⟨c, t1, t2, k, b1, b2, b3, tok, key, hi, val, lim, st, wl, lg, nd, ps, tk⟩ = q at *
  by_cases h3 : st = 0
  · subst h3
    by_cases h4 : k = 4
    · obtain rfl : q = true := by simp [q0, h4]
      subst h4; clear q0
      go_enter Try.func32, Try.ntmps32
      go_wp2
      go_ret
      exact ⟨rfl, (Gr.refl _).alloc _⟩
    · have h4' := beq_eq_false_iff_ne.2 h4
      by_cases h5 : k = 5
      · obtain rfl : q = true := by simp [q0, h5]
        subst h5; clear q0 h4 h4'
        go_enter Try.func32, Try.ntmps32
        go_wp2
        go_ret
        exact ⟨rfl, (Gr.refl _).alloc _⟩
      · obtain rfl : q = false := by simp [q0, h4, h5]
        have h5' := beq_eq_false_iff_ne.2 h5
        clear q0 h4 h5
        go_enter Try.func32, Try.ntmps32
        go_wp2
        go_ret
        exact ⟨rfl, (Gr.refl _).alloc _⟩
  · obtain rfl : q = false := by simp [q0, h3]
    have h3' := beq_eq_false_iff_ne.2 h3
    clear q0 h3
    go_enter Try.func32, Try.ntmps32
    go_wp2
    go_ret
    exact ⟨rfl, (Gr.refl _).alloc _⟩

/-- An api.Write: key, is it a deletion, value. -/
abbrev Wrt := ByteArray × Bool × ByteArray
def wrv (x : Wrt) : List Value := [.string x.1, .bool x.2.1, .string x.2.2]
def wof (a : Ans) : Wrt := if a.k = 5 then (a.key, true, ByteArray.empty) else (a.key, false, a.val)
theorem writeOf_any (a : Ans) (w : World) :
    Calls Try.prog 33 #[.agg a.o.toArray] w
     fun r w' => r = .returned (.agg (wrv (wof a)).toArray) ∧ Gr w w' := by
  obtain ⟨c, t1, t2, k, b1, b2, b3, tok, key, hi, val, lim, st, wl, lg, nd, ps, tk⟩ := a
  simp only [Ans.o, wof, wrv]
  by_cases h5 : k = 5
  · simp only [if_pos h5]
    subst h5
    go_enter Try.func33, Try.ntmps33
    go_wp2
    exact bodyPost_ret (v := .agg #[.string key, .bool true, .string ByteArray.empty]) (by simp [results, Try.results33, go_sem]; rfl) rfl ⟨rfl, ((Gr.refl _).alloc _).alloc _⟩
  · simp only [if_neg h5]
    have h5' := beq_eq_false_iff_ne.2 h5
    clear h5
    go_enter Try.func33, Try.ntmps33
    go_wp2
    exact bodyPost_ret (v := .agg #[.string key, .bool false, .string val]) (by simp [results, Try.results33, go_sem]) rfl ⟨rfl, ((Gr.refl _).alloc _).alloc _⟩

theorem inside_none (k : ByteArray) (w : World) :
    Calls Try.prog 44 #[.string k, .agg #[.string ByteArray.empty, .string ByteArray.empty]] w
     fun r w' => r = .returned (.bool true) ∧ Gr w w' := by
  have t : (Op.bytesLess [] k.toList || k.toList.isEmpty) = true := by
    cases hk : k.toList with
    | nil => rfl
    | cons a l => rfl
  go_enter Try.func44, Try.ntmps44
  go_wp2
  go_ret
  exact ⟨rfl, (Gr.refl _).alloc _⟩

def lat (x y : Ent) : Bool := if x.w = y.w ∧ x.l = y.l ∧ x.n = y.n then (if x.c ≠ y.c then decide (y.c < x.c) else decide (y.s < x.s)) else sless y.w y.l y.n x.w x.l x.n
theorem later_any (x y : Ent) (w : World) :
    Calls Try.prog 47 #[.agg x.v.toArray, .agg y.v.toArray] w
     fun r w' => r = .returned (.bool (lat x y)) ∧ Gr w w' := by
  have q0 : lat x y = if x.w = y.w ∧ x.l = y.l ∧ x.n = y.n then (if x.c ≠ y.c then decide (y.c < x.c) else decide (y.s < x.s)) else sless y.w y.l y.n x.w x.l x.n := rfl
  generalize lat x y = q at *
  obtain ⟨a1, a2, a3, a4, a5, a6, a7, hx⟩ := x
  obtain ⟨b1, b2, b3, b4, b5, b6, b7, hy⟩ := y
  simp only [Ent.v]
  replace q0 : q = if a5 = b5 ∧ a6 = b6 ∧ a7 = b7 then (if a1 ≠ b1 then decide (b1 < a1) else decide (b2 < a2)) else sless b5 b6 b7 a5 a6 a7 := q0
  clear hx hy
  by_cases h1 : a5 = b5 ∧ a6 = b6 ∧ a7 = b7
  · rw [if_pos h1] at q0
    obtain ⟨rfl, rfl, rfl⟩ := h1
    by_cases h2 : a1 = b1
    · subst h2
      obtain rfl : q = decide (b2 < a2) := by simpa using q0
      clear q0
      go_enter Try.func47, Try.ntmps47
      go_wp2
      go_ret
      exact ⟨rfl, ((Gr.refl _).alloc _).alloc _⟩
    · obtain rfl : q = decide (b1 < a1) := by rw [if_pos h2] at q0; exact q0
      have t := bne_iff_ne.2 h2
      clear q0 h2
      go_enter Try.func47, Try.ntmps47
      go_wp2
      go_ret
      exact ⟨rfl, ((Gr.refl _).alloc _).alloc _⟩
  · rw [if_neg h1] at q0
    subst q0
    have t : (a5 == b5 && (a6 == b6 && a7 == b7)) = false := by rw [Bool.eq_false_iff]; simp only [ne_eq, Bool.and_eq_true, beq_iff_eq]; exact h1
    have hl := below_any b5 b6 b7 a5 a6 a7
    generalize sless b5 b6 b7 a5 a6 a7 = q at *
    have HL := Lib.hid hl
    clear hl h1
    go_enter Try.func47, Try.ntmps47
    go_wp2_with fail
    refine (HL.out _).mono ?_
    rintro e1 w1 ⟨rfl, g1⟩
    go_wp2
    go_ret
    exact ⟨rfl, (((Gr.refl _).alloc _).alloc _).trans g1⟩
end Go.Proofs.Ytnojphaipfmiiaa
