/- The plain law behind slices.SortStableFunc: exchanges of ranges, rotations, insertions, symmetric merges, over arrays. No program. -/
import Derived.Sort.LotA
namespace Go.Proofs.Ytnojphaipfmiiaa
open Go.Sort
set_option linter.unusedVariables false
set_option linter.unusedSectionVars false
variable {α : Type} [Inhabited α]

def swf (f : Nat → α) (a b n x : Nat) : α := if a ≤ x ∧ x < a + n then f (x + (b - a)) else if b ≤ x ∧ x < b + n then f (x - (b - a)) else f x
def rotf (f : Nat → α) (lo m hi x : Nat) : α := if lo ≤ x ∧ x < hi then (if x < lo + (hi - m) then f (x + (m - lo)) else f (x - (hi - m))) else f x

theorem rot_gt (f : Nat → α) (m i j : Nat) (hi : i ≤ m) (hj : 0 < j) (hij : j < i) (x : Nat) : rotf (swf f (m - i) m j) (m - (i - j)) m (m + j) x = rotf f (m - i) m (m + j) x := by
  simp only [rotf, swf]
  repeat' split
  all_goals first | rfl | (congr 1; omega) | omega
theorem rot_lt (f : Nat → α) (m i j : Nat) (hi : i ≤ m) (hj : 0 < i) (hij : i < j) (x : Nat) : rotf (swf f (m - i) (m + j - i) i) (m - i) m (m + (j - i)) x = rotf f (m - i) m (m + j) x := by
  simp only [rotf, swf]
  repeat' split
  all_goals first | rfl | (congr 1; omega) | omega
theorem rot_last (f : Nat → α) (m i : Nat) (hi : i ≤ m) (x : Nat) : swf f (m - i) m i x = rotf f (m - i) m (m + i) x := by
  simp only [rotf, swf]
  repeat' split
  all_goals first | rfl | (congr 1; omega) | omega
theorem rot_left (f : Nat → α) (m hi x : Nat) : rotf f m m hi x = f x := by
  simp only [rotf]
  repeat' split
  all_goals first | rfl | (congr 1; omega) | omega
theorem rot_right (f : Nat → α) (lo m x : Nat) : rotf f lo m m x = f x := by
  simp only [rotf]
  repeat' split
  all_goals first | rfl | (congr 1; omega) | omega

/-- One place's value goes to place e, those between move down. -/
def insf (f : Nat → α) (a e x : Nat) : α := if a ≤ x ∧ x < e then f (x + 1) else if x = e then f a else f x
/-- Place m's value goes down to place i, those between move up. -/
def dnf (f : Nat → α) (m i x : Nat) : α := if x = i then f m else if i < x ∧ x ≤ m then f (x - 1) else f x

theorem perm_all {d d' : Array α} {a b : Nat} (h : PermIn a b d d') (hb : b ≤ d.size) (Q : α → Prop) (hq : ∀ i, a ≤ i → i < b → Q d[i]!) : ∀ i, a ≤ i → i < b → Q d'[i]! := by
  intro i h1 h2
  have hs : d'.size = d.size := h.1
  have hm : d'[i]! ∈ (d'.extract a b).toList := by
    rw [List.mem_iff_getElem?]
    refine ⟨i - a, ?_⟩
    rw [Array.getElem?_toList, Array.getElem?_extract, if_pos (by omega), show a + (i - a) = i by omega]
    rw [getElem!_pos d' i (by omega)]
    exact Array.getElem?_eq_getElem (by omega)
  have hm2 := h.2.2.mem_iff.1 hm
  obtain ⟨j, hj⟩ := List.mem_iff_getElem?.1 hm2
  rw [Array.getElem?_toList, Array.getElem?_extract] at hj
  split at hj
  · rename_i hlt
    have : a + j < d.size := by omega
    rw [Array.getElem?_eq_getElem this] at hj
    have e := Option.some.inj hj
    rw [← e, ← getElem!_pos d (a + j) this]
    exact hq (a + j) (by omega) (by omega)
  · cases hj

variable {lt : α → α → Bool}

theorem swo_asym (h : SWO lt) {x y : α} (hxy : lt x y = true) : lt y x = false := by
  cases hyx : lt y x with
  | false => rfl
  | true => have := h.trans x y x hxy hyx; rw [h.irrefl] at this; cases this
/-- less, then not greater: less. -/
theorem swo_lt_le (h : SWO lt) {x y z : α} (hxy : lt x y = true) (hyz : lt z y = false) : lt x z = true := by
  cases hxz : lt x z with
  | true => rfl
  | false => have := h.ntrans x z y hxz hyz; rw [this] at hxy; cases hxy
theorem swo_le_lt (h : SWO lt) {x y z : α} (hxy : lt y x = false) (hyz : lt y z = true) : lt x z = true := by
  cases hxz : lt x z with
  | true => rfl
  | false => have := h.ntrans y x z hxy hxz; rw [this] at hyz; cases hyz

/-- The lone first element goes in behind the search. -/
theorem ins_sorted (h : SWO lt) (d d' : Array α) (a b i : Nat) (hi : a + 1 ≤ i) (hib : i ≤ b) (hs : SortedIn lt (a + 1) b d) (hl : i = a + 1 ∨ lt d[i - 1]! d[a]! = true) (hr : i = b ∨ lt d[i]! d[a]! = false)
    (hd : ∀ x, d'[x]! = insf (fun x => d[x]!) a (i - 1) x) : SortedIn lt a b d' := by
  have low : ∀ x, a + 1 ≤ x → x < i → lt d[x]! d[a]! = true := fun x h1 h2 => by
    rcases hl with hl | hl
    · omega
    · by_cases hx : x = i - 1
      · rw [hx]; exact hl
      · exact swo_le_lt h (hs x (i - 1) h1 (by omega) (by omega)) hl
  have high : ∀ x, i ≤ x → x < b → lt d[x]! d[a]! = false := fun x h1 h2 => by
    rcases hr with hr | hr
    · omega
    · by_cases hx : x = i
      · rw [hx]; exact hr
      · exact h.ntrans _ d[i]! _ (hs i x hi (by omega) h2) hr
  intro x y h1 h2 h3
  rw [hd x, hd y]
  simp only [insf]
  by_cases hy1 : y < i - 1
  · rw [if_pos (by omega), if_pos (by omega)]
    exact hs _ _ (by omega) (by omega) (by omega)
  · by_cases hy2 : y = i - 1
    · rw [if_neg (by omega), if_pos hy2]
      by_cases hx1 : x < i - 1
      · rw [if_pos (by omega)]; exact swo_asym h (low _ (by omega) (by omega))
      · omega
    · rw [if_neg (by omega), if_neg hy2]
      by_cases hx1 : x < i - 1
      · rw [if_pos (by omega)]; exact hs _ _ (by omega) (by omega) h3
      · by_cases hx2 : x = i - 1
        · rw [if_neg (by omega), if_pos hx2]; exact high y (by omega) h3
        · rw [if_neg (by omega), if_neg hx2]; exact hs _ _ (by omega) h2 h3

/-- The lone last element goes in behind the search. -/
theorem dn_sorted (h : SWO lt) (d d' : Array α) (a m i : Nat) (hi : a ≤ i) (him : i ≤ m) (hs : SortedIn lt a m d) (hl : i = a ∨ lt d[m]! d[i - 1]! = false) (hr : i = m ∨ lt d[m]! d[i]! = true)
    (hd : ∀ x, d'[x]! = dnf (fun x => d[x]!) m i x) : SortedIn lt a (m + 1) d' := by
  have low : ∀ x, a ≤ x → x < i → lt d[m]! d[x]! = false := fun x h1 h2 => by
    rcases hl with hl | hl
    · omega
    · by_cases hx : x = i - 1
      · rw [hx]; exact hl
      · exact h.ntrans _ d[i - 1]! _ hl (hs x (i - 1) h1 (by omega) (by omega))
  have high : ∀ x, i ≤ x → x < m → lt d[m]! d[x]! = true := fun x h1 h2 => by
    rcases hr with hr | hr
    · omega
    · by_cases hx : x = i
      · rw [hx]; exact hr
      · exact swo_lt_le h hr (hs i x hi (by omega) h2)
  intro x y h1 h2 h3
  rw [hd x, hd y]
  simp only [dnf]
  by_cases hy1 : y < i
  · rw [if_neg (by omega), if_neg (by omega), if_neg (by omega), if_neg (by omega)]
    exact hs _ _ h1 h2 (by omega)
  · by_cases hy2 : y = i
    · rw [if_pos hy2, if_neg (by omega), if_neg (by omega)]
      exact low x h1 (by omega)
    · rw [if_neg hy2, if_pos (by omega)]
      by_cases hx1 : x < i
      · rw [if_neg (by omega), if_neg (by omega)]
        exact hs _ _ h1 (by omega) (by omega)
      · by_cases hx2 : x = i
        · rw [if_pos hx2]; exact swo_asym h (high _ (by omega) (by omega))
        · rw [if_neg hx2, if_pos (by omega)]
          exact hs _ _ (by omega) (by omega) (by omega)

/-- What the search in two runs says of the rotation: two runs on each side, nothing on the right less than something on the left. -/
structure Parted (lt : α → α → Bool) (e : Array α) (a s mid t b : Nat) : Prop where
  l1 : SortedIn lt a s e
  l2 : SortedIn lt s mid e
  r1 : SortedIn lt mid t e
  r2 : SortedIn lt t b e
  lr : ∀ x y, a ≤ x → x < mid → mid ≤ y → y < b → lt e[y]! e[x]! = false

theorem parted (h : SWO lt) (d e : Array α) (a m b s t mid : Nat) (h1 : a ≤ s) (h2 : s ≤ m) (h3 : m ≤ t) (h4 : t ≤ b) (hmid : mid + m = s + t)
    (hs1 : SortedIn lt a m d) (hs2 : SortedIn lt m b d) (hl : s = a ∨ t = b ∨ lt d[t]! d[s - 1]! = false) (hr : s = m ∨ t = m ∨ lt d[t - 1]! d[s]! = true)
    (he : ∀ x, e[x]! = rotf (fun x => d[x]!) s m t x) : Parted lt e a s mid t b := by
  have out : ∀ x, x < s ∨ t ≤ x → e[x]! = d[x]! := fun x hx => by rw [he x, rotf, if_neg (by omega)]
  have in1 : ∀ x, s ≤ x → x < mid → e[x]! = d[x + (m - s)]! := fun x h5 h6 => by rw [he x, rotf, if_pos (by omega), if_pos (by omega)]
  have in2 : ∀ x, mid ≤ x → x < t → e[x]! = d[x - (t - m)]! := fun x h5 h6 => by rw [he x, rotf, if_pos (by omega), if_neg (by omega)]
  refine ⟨?_, ?_, ?_, ?_, ?_⟩
  · intro x y g1 g2 g3
    rw [out x (by omega), out y (by omega)]; exact hs1 x y g1 g2 (by omega)
  · intro x y g1 g2 g3
    rw [in1 x g1 (by omega), in1 y (by omega) g3]; exact hs2 _ _ (by omega) (by omega) (by omega)
  · intro x y g1 g2 g3
    rw [in2 x g1 (by omega), in2 y (by omega) g3]; exact hs1 _ _ (by omega) (by omega) (by omega)
  · intro x y g1 g2 g3
    rw [out x (by omega), out y (by omega)]; exact hs2 x y (by omega) g2 g3
  · -- left elements: d[a..s), d[m..t); right ones: d[s..m), d[t..b)
    have A : ∀ x y, a ≤ x → x < s → t ≤ y → y < b → lt d[y]! d[x]! = false := fun x y g1 g2 g3 g4 => by
      rcases hl with hl | hl | hl
      · omega
      · omega
      · have q1 : lt d[y]! d[t]! = false := by
          by_cases hy : y = t
          · rw [hy]; exact h.irrefl _
          · exact hs2 t y h3 (by omega) g4
        have q2 : lt d[s - 1]! d[x]! = false := by
          by_cases hx : x = s - 1
          · rw [hx]; exact h.irrefl _
          · exact hs1 x (s - 1) g1 (by omega) (by omega)
        exact h.ntrans _ _ _ (h.ntrans _ _ _ q1 hl) q2
    have B : ∀ x y, m ≤ x → x < t → s ≤ y → y < m → lt d[y]! d[x]! = false := fun x y g1 g2 g3 g4 => by
      rcases hr with hr | hr | hr
      · omega
      · omega
      · have q1 : lt d[t - 1]! d[x]! = false := by
          by_cases hx : x = t - 1
          · rw [hx]; exact h.irrefl _
          · exact hs2 x (t - 1) g1 (by omega) (by omega)
        have q2 : lt d[y]! d[s]! = false := by
          by_cases hy : y = s
          · rw [hy]; exact h.irrefl _
          · exact hs1 s y h1 (by omega) g4
        exact swo_asym h (swo_lt_le h (swo_le_lt h q1 hr) q2)
    intro x y g1 g2 g3 g4
    by_cases hx : x < s
    · rw [out x (by omega)]
      by_cases hy : y < t
      · rw [in2 y g3 hy]; exact hs1 _ _ g1 (by omega) (by omega)
      · rw [out y (by omega)]; exact A x y g1 hx (by omega) g4
    · rw [in1 x (by omega) g2]
      by_cases hy : y < t
      · rw [in2 y g3 hy]; exact B _ _ (by omega) (by omega) (by omega) (by omega)
      · rw [out y (by omega)]; exact hs2 _ _ (by omega) (by omega) g4

/-- Both sides merged: sorted. -/
theorem joined (e f : Array α) (a mid b : Nat) (hb : b ≤ e.size) (hp1 : PermIn a mid e f) (g : Array α) (hp2 : PermIn mid b f g) (hs1 : SortedIn lt a mid f) (hs2 : SortedIn lt mid b g) (ha : a ≤ mid) (hm : mid ≤ b)
    (lr : ∀ x y, a ≤ x → x < mid → mid ≤ y → y < b → lt e[y]! e[x]! = false) : SortedIn lt a b g := by
  have hs : f.size = e.size := hp1.1
  have lr2 : ∀ x y, a ≤ x → x < mid → mid ≤ y → y < b → lt g[y]! g[x]! = false := fun x y h1 h2 h3 h4 => by
    have hx : g[x]! = f[x]! := hp2.2.1 x (Or.inl h2)
    rw [hx]
    refine perm_all hp1 (by omega) (fun v => lt g[y]! v = false) (fun i hi1 hi2 => ?_) x h1 h2
    refine perm_all hp2 (by omega) (fun v => lt v e[i]! = false) (fun j hj1 hj2 => ?_) y h3 h4
    have hj : f[j]! = e[j]! := hp1.2.1 j (Or.inr hj1)
    rw [hj]; exact lr i j hi1 hi2 hj1 hj2
  intro x y h1 h2 h3
  by_cases hy : y < mid
  · rw [hp2.2.1 x (Or.inl (by omega)), hp2.2.1 y (Or.inl hy)]; exact hs1 x y h1 h2 hy
  · by_cases hx : x < mid
    · exact lr2 x y h1 hx (by omega) h3
    · exact hs2 x y (by omega) h2 h3
end Go.Proofs.Ytnojphaipfmiiaa
