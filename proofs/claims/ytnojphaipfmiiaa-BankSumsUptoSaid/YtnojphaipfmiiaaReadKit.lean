/- read's own memory. -/
import Derived.Test.YtnojphaipfmiiaaUpTo
namespace Go.Proofs.Ytnojphaipfmiiaa
open Go.Proofs Go.Shelf Go.RowKit Go.Lib
set_option linter.unusedVariables false
set_option linter.unusedSimpArgs false

def stv (s : Int × Int × Int) : Value := .agg #[.int .u64 s.1, .int .u32 s.2.1, .int .u32 s.2.2]
/-- What read has made so far: the boxed result rb, the map of times ma, the map of writes mw, the history hb. -/
structure RD (w : World) (rb ma mw hb : Nat) (ev em : Value) (wr : World) (v : Value) (O : World → Prop) (fA : Int × Int → Option (Int × Int × Int)) (F : Int × Int → Option Nat) (G : Hist) : Prop where
  ord : rb = w.heap.size ∧ ma = rb + 1 ∧ mw = rb + 2 ∧ hb = rb + 3
  by0 : w.grownBy wr none
  size : hb < wr.heap.size
  e7 : wr.cell? ⟨rb, 7, none⟩ = some ev
  e9 : wr.cell? ⟨rb, 9, none⟩ = some em
  c13 : wr.cell? ⟨hb, 13, none⟩ = some v
  f13 : wr.frozen? ⟨hb, 13, none⟩ = false
  c14 : wr.cell? ⟨hb, 14, none⟩ = some (.map (some ma))
  c15 : wr.cell? ⟨hb, 15, none⟩ = some (.map (some mw))
  own : O wr
  okeep : ∀ (a b : World) (row : Option Nat), a.grownBy b row → (v.ownBlock = none ∨ v.ownBlock ≠ row) → O a → O b
  far : ∀ j, v.ownBlock = some j → hb < j
  at' : MapIs txv stv wr ma fA
  wm : MapIs txv mapv wr mw F
  gn : ∀ t, F t = none → ∀ k, G t k = none
  gs : ∀ t i, F t = some i → hb < i ∧ v.ownBlock ≠ some i ∧ MapIs Value.string wrV wr i (G t)
  inj : ∀ t t' i, F t = some i → F t' = some i → t = t'

/-- The commits' row, grown by appending. -/
def OwnO (hb : Nat) (v : Value) (l : List Ent) : World → Prop := fun W => W.ownsRow (hb + 1) 52 7 v l.length (l.flatMap Ent.v)
/-- The commits' row, sorted. -/
def RowO (A : Option Addr) (l : List Ent) : World → Prop := fun W => RowAt Ent.v 7 W A l
section
variable {w : World} {rb ma mw hb : Nat} {ev em : Value} {wr wr' : World} {v : Value} {O : World → Prop} {fA : Int × Int → Option (Int × Int × Int)} {F : Int × Int → Option Nat} {G : Hist}
theorem RD.own_far (h : RD w rb ma mw hb ev em wr v O fA F G) {b : Nat} (hb' : b ≤ hb) : v.ownBlock ≠ some b := fun e => by have := h.far b e; omega
theorem cell_row {a b : World} {row : Option Nat} (hg : a.grownBy b row) {p : Addr} {u : Value} (h : a.cell? p = some u) (hr : row ≠ some p.block) : b.cell? p = some u := by
  rw [World.cell?_of_block (hg.block p.block (World.block_lt_of_cell? a _ h) (fun e => hr e.symm))]; exact h
/-- One of its blocks, or none, has turned: the rest stands. -/
theorem RD.base (h : RD w rb ma mw hb ev em wr v O fA F G) {row : Option Nat} (hg : wr.grownBy wr' row) (hw : ∀ j, row = some j → rb ≤ j) :
    w.grownBy wr' none ∧ hb < wr'.heap.size := ⟨h.by0.andThen hg (fun j hj => Or.inl (by have := hw j hj; have := h.ord; omega)), by have := h.size; have := hg.size; omega⟩
/-- A store into a map of its own: rb, hb and the rows stand. -/
theorem RD.head (h : RD w rb ma mw hb ev em wr v O fA F G) {row : Option Nat} (hg : wr.grownBy wr' row) (h1 : row ≠ some rb) (h2 : row ≠ some hb) (h3 : v.ownBlock = none ∨ v.ownBlock ≠ row) :
    wr'.cell? ⟨rb, 7, none⟩ = some ev ∧ wr'.cell? ⟨rb, 9, none⟩ = some em ∧ wr'.cell? ⟨hb, 13, none⟩ = some v ∧ wr'.frozen? ⟨hb, 13, none⟩ = false ∧ wr'.cell? ⟨hb, 14, none⟩ = some (.map (some ma)) ∧
    wr'.cell? ⟨hb, 15, none⟩ = some (.map (some mw)) ∧ O wr' := by
  refine ⟨cell_row hg h.e7 h1, cell_row hg h.e9 h1, cell_row hg h.c13 h2, ?_, cell_row hg h.c14 h2, cell_row hg h.c15 h2, h.okeep _ _ _ hg h3 h.own⟩
  rw [World.frozen?_of_block (hg.block hb h.size (fun e => h2 e.symm))]; exact h.f13
theorem RD.put_at (h : RD w rb ma mw hb ev em wr v O fA F G) (hg : wr.grownBy wr' (some ma)) {fA' : Int × Int → Option (Int × Int × Int)} (hm : MapIs txv stv wr' ma fA') : RD w rb ma mw hb ev em wr' v O fA' F G := by
  obtain ⟨o1, o2, o3, o4⟩ := h.ord
  obtain ⟨a1, a2⟩ := h.base hg (fun j hj => by injection hj; omega)
  obtain ⟨b1, b2, b3, b4, b5, b6, b7⟩ := h.head hg (by simp; omega) (by simp; omega) (Or.inr (h.own_far (by omega)))
  exact ⟨h.ord, a1, a2, b1, b2, b3, b4, b5, b6, b7, h.okeep, h.far, hm, h.wm.kept hg (by simp; omega), h.gn, fun t i hi => ⟨(h.gs t i hi).1, (h.gs t i hi).2.1, (h.gs t i hi).2.2.kept hg (by have := (h.gs t i hi).1; simp; omega)⟩, h.inj⟩
/-- A new inner map, put under t. -/
theorem RD.put_wm (h : RD w rb ma mw hb ev em wr v O fA F G) (hg : wr.grownBy wr' (some mw)) {t : Int × Int} {i : Nat} (hm : MapIs txv mapv wr' mw (upd F t i)) (ht : F t = none) (hi : hb < i) (hv : v.ownBlock ≠ some i) (hin : MapIs Value.string wrV wr' i (fun _ => none))
    (hnew : ∀ t', F t' ≠ some i) : RD w rb ma mw hb ev em wr' v O fA (upd F t i) G := by
  obtain ⟨o1, o2, o3, o4⟩ := h.ord
  obtain ⟨a1, a2⟩ := h.base hg (fun j hj => by injection hj; omega)
  obtain ⟨b1, b2, b3, b4, b5, b6, b7⟩ := h.head hg (by simp; omega) (by simp; omega) (Or.inr (h.own_far (by omega)))
  refine ⟨h.ord, a1, a2, b1, b2, b3, b4, b5, b6, b7, h.okeep, h.far, h.at'.kept hg (by simp; omega), hm, ?_, ?_, ?_⟩
  · intro t' ht' k
    by_cases e : t' = t
    · subst e; simp [upd] at ht'
    · simp [upd, e] at ht'; exact h.gn t' ht' k
  · intro t' j hj
    by_cases e : t' = t
    · subst e
      simp [upd] at hj
      subst hj
      exact ⟨hi, hv, hin.congr fun k => (h.gn t' ht k).symm⟩
    · simp [upd, e] at hj
      exact ⟨(h.gs t' j hj).1, (h.gs t' j hj).2.1, (h.gs t' j hj).2.2.kept hg (by have := (h.gs t' j hj).1; simp; omega)⟩
  · intro t1 t2 j h1 h2
    by_cases e1 : t1 = t <;> by_cases e2 : t2 = t
    · rw [e1, e2]
    · subst e1; simp [upd] at h1; simp [upd, e2] at h2; subst h1; exact absurd h2 (hnew t2)
    · subst e2; simp [upd] at h2; simp [upd, e1] at h1; subst h2; exact absurd h1 (hnew t1)
    · simp [upd, e1] at h1; simp [upd, e2] at h2; exact h.inj t1 t2 j h1 h2
/-- A write, put into an inner map. -/
theorem RD.put_in (h : RD w rb ma mw hb ev em wr v O fA F G) {t : Int × Int} {i : Nat} {k : ByteArray} {x : Wrt} (hg : wr.grownBy wr' (some i)) (ht : F t = some i) (hm : MapIs Value.string wrV wr' i (upd (G t) k x)) :
    RD w rb ma mw hb ev em wr' v O fA F (fun t' => if t' = t then upd (G t) k x else G t') := by
  obtain ⟨o1, o2, o3, o4⟩ := h.ord
  obtain ⟨g1, g2, g3⟩ := h.gs t i ht
  obtain ⟨a1, a2⟩ := h.base hg (fun j hj => by injection hj; omega)
  obtain ⟨b1, b2, b3, b4, b5, b6, b7⟩ := h.head hg (by simp; omega) (by simp; omega) (Or.inr g2)
  refine ⟨h.ord, a1, a2, b1, b2, b3, b4, b5, b6, b7, h.okeep, h.far, h.at'.kept hg (by simp; omega), h.wm.kept hg (by simp; omega), ?_, ?_, h.inj⟩
  · intro t' ht' k'
    by_cases e : t' = t
    · subst e; rw [ht] at ht'; cases ht'
    · simp only [if_neg e]; exact h.gn t' ht' k'
  · intro t' j hj
    by_cases e : t' = t
    · subst e
      rw [ht] at hj; cases hj
      simp only [if_pos]
      exact ⟨g1, g2, hm⟩
    · simp only [if_neg e]
      exact ⟨(h.gs t' j hj).1, (h.gs t' j hj).2.1, (h.gs t' j hj).2.2.kept hg (by simp; intro e'; subst e'; exact e (h.inj t' t j hj ht))⟩
/-- Only new blocks, and perhaps draws. -/
theorem RD.kept (h : RD w rb ma mw hb ev em wr v O fA F G) (hg : wr.grownBy wr' none) : RD w rb ma mw hb ev em wr' v O fA F G := by
  obtain ⟨a1, a2⟩ := h.base hg (by simp)
  obtain ⟨b1, b2, b3, b4, b5, b6, b7⟩ := h.head hg (by simp) (by simp) (Classical.em _)
  exact ⟨h.ord, a1, a2, b1, b2, b3, b4, b5, b6, b7, h.okeep, h.far, h.at'.kept hg (by simp), h.wm.kept hg (by simp), h.gn, fun t i hi => ⟨(h.gs t i hi).1, (h.gs t i hi).2.1, (h.gs t i hi).2.2.kept hg (by simp)⟩, h.inj⟩

theorem grown_set (w : World) (a : Addr) (u : Value) : w.grownBy (w.setCell a u) (some a.block) :=
  ⟨rfl, rfl, rfl, by simp, fun k _ hk => Below.heap_setCell _ _ _ k (fun e => hk (by rw [e]))⟩
/-- A commit, appended: the row in w1, its slice stored. -/
theorem RD.app {w1 : World} {l : List Ent} (h : RD w rb ma mw hb ev em wr v (OwnO hb v l) fA F G) (hF : ∀ t, F t = none) (hg : wr.grownBy w1 v.ownBlock) {v' : Value} {x : Ent} (ho : w1.ownsRow (hb + 1) 52 7 v' (l.length + 1) (l.flatMap Ent.v ++ x.v)) :
    RD w rb ma mw hb ev em (w1.setCell ⟨hb, 13, none⟩ v') v' (OwnO hb v' (l ++ [x])) fA F G := by
  obtain ⟨o1, o2, o3, o4⟩ := h.ord
  have hfar : ∀ j, v.ownBlock = some j → hb < j := h.far
  have hn : ∀ b, b ≤ hb → v.ownBlock ≠ some b := fun b hb' => h.own_far hb'
  obtain ⟨a1, a2⟩ := h.base hg (fun j hj => by have := hfar j hj; omega)
  have hs := grown_set w1 ⟨hb, 13, none⟩ v'
  have ne1 : (some hb : Option Nat) ≠ some rb := by simp; omega
  have d13 : w1.cell? ⟨hb, 13, none⟩ = some v := cell_row hg h.c13 (hn _ (Nat.le_refl _))
  refine ⟨h.ord, a1.andThen hs (fun j hj => by injection hj with hj; exact Or.inl (by show w.heap.size ≤ j; rw [← hj]; show w.heap.size ≤ hb; omega)), by simpa using a2, ?_, ?_, ?_, ?_, ?_, ?_, ?_, ?_, ?_, ?_, ?_, h.gn, ?_, h.inj⟩
  · exact cell_row hs (cell_row hg h.e7 (hn rb (by omega))) ne1
  · exact cell_row hs (cell_row hg h.e9 (hn rb (by omega))) ne1
  · exact World.cell?_setCell_same' w1 _ v' (by rw [d13]; rfl)
  · rw [World.frozen?_setCell, World.frozen?_of_block (hg.block hb h.size (fun e => hn hb (Nat.le_refl _) e.symm))]; exact h.f13
  · rw [show (w1.setCell ⟨hb, 13, none⟩ v').cell? ⟨hb, 14, none⟩ = w1.cell? ⟨hb, 14, none⟩ from World.cell?_setCell_other _ _ _ v' (by simp)]; exact cell_row hg h.c14 (hn _ (Nat.le_refl _))
  · rw [show (w1.setCell ⟨hb, 13, none⟩ v').cell? ⟨hb, 15, none⟩ = w1.cell? ⟨hb, 15, none⟩ from World.cell?_setCell_other _ _ _ v' (by simp)]; exact cell_row hg h.c15 (hn _ (Nat.le_refl _))
  · have := ownsRow_setCell_below ho (a := ⟨hb, 13, none⟩) (Nat.lt_succ_self _) v'
    unfold OwnO
    rw [List.length_append, List.flatMap_append]
    simpa using this
  · exact fun a b row hg hne ho => World.ownsRow.kept ho hg hne
  · exact fun j hj => by have := own_ge ho j hj; omega
  · exact (h.at'.kept hg (fun e => hn ma (by omega) e.symm)).kept hs (by simp; omega)
  · exact (h.wm.kept hg (fun e => hn mw (by omega) e.symm)).kept hs (by simp; omega)
  · intro t i hi; rw [hF t] at hi; cases hi
/-- The row has been sorted. -/
theorem RD.sorted {w1 : World} {A : Option Addr} {n c : Nat} {l : List Ent} (h : RD w rb ma mw hb ev em wr (.slice A n c) O fA F G) (hF : ∀ t, F t = none) (hg : wr.grownBy w1 (Value.ownBlock (.slice A n c))) (ho : RowAt Ent.v 7 w1 A l) :
    RD w rb ma mw hb ev em w1 (.slice A n c) (RowO A l) fA F G := by
  obtain ⟨o1, o2, o3, o4⟩ := h.ord
  have hn : ∀ b, b ≤ hb → Value.ownBlock (.slice A n c) ≠ some b := fun b hb' => h.own_far hb'
  obtain ⟨a1, a2⟩ := h.base hg (fun j hj => by have := h.far j hj; omega)
  refine ⟨h.ord, a1, a2, cell_row hg h.e7 (hn rb (by omega)), cell_row hg h.e9 (hn rb (by omega)), cell_row hg h.c13 (hn hb (Nat.le_refl _)), ?_, cell_row hg h.c14 (hn hb (Nat.le_refl _)), cell_row hg h.c15 (hn hb (Nat.le_refl _)), ho, ?_, h.far,
    h.at'.kept hg (fun e => hn ma (by omega) e.symm), h.wm.kept hg (fun e => hn mw (by omega) e.symm), h.gn, fun t i hi => (by rw [hF t] at hi; cases hi), h.inj⟩
  · rw [World.frozen?_of_block (hg.block hb h.size (fun e => hn hb (Nat.le_refl _) e.symm))]; exact h.f13
  · intro a b row hg2 hne ho2 i x hx
    obtain ⟨g, off, rfl, hr⟩ := ho2 i x hx
    refine ⟨g, off, rfl, fun j u hu => cell_row hg2 (hr j u hu) ?_⟩
    rcases hne with h | h
    · simp [Value.ownBlock] at h
    · exact fun e => h e.symm
end
end Go.Proofs.Ytnojphaipfmiiaa
