/- Maps in memory as partial functions: made, read, written, ranged over in whatever order. -/
import Derived.Test.YtnojphaipfmiiaaRefs
import Derived.Maps.RangeWalk
namespace Go.Proofs.Ytnojphaipfmiiaa
open Go.RowKit Go.Lib
open Go.ChangeMaps (setBlock heap_setBlock_same heap_setBlock_other)
set_option linter.unusedVariables false
set_option linter.unusedSimpArgs false

/-- A type of keys, spelt by K. -/
structure KeyK {α : Type} (P : Program) (k : TypeId) (K : α → Value) : Prop where
  inj : ∀ {a b}, K a = K b → a = b
  check : ∀ (w : World) (em : Bool) (a : α), (Instr.checkKey em 10000 k (K a)).run P w = .ok () w
  find : ∀ (w : World) (a : α) (es : List MapEntry), (∀ e ∈ es, ∃ a', e.key = K a') →
    ((Instr.findKey k (K a) es).run P w = .ok none w ∧ ∀ e ∈ es, e.key ≠ K a) ∨ ∃ j e, (Instr.findKey k (K a) es).run P w = .ok (some (j, e.val)) w ∧ es[j]? = some e ∧ e.key = K a
  stays : ∀ (w : World) (a : α), (Instr.keyThatStays (K a) (K a)).run P w = .ok (K a) w

theorem bbeq (s a : ByteArray) : (s == a) = decide (s = a) := by
  by_cases h : s = a
  · rw [decide_eq_true h]; exact (MapKept.bytes_beq s a).2 h
  · rw [decide_eq_false h, ← Bool.not_eq_true]; exact fun e => h ((MapKept.bytes_beq s a).1 e)
theorem findNow_str (s : ByteArray) : ∀ (es : List MapEntry) (i : Nat), (∀ e ∈ es, ∃ a', e.key = Value.string a') →
    (Instr.findNow .string (.string s) es i = some none ∧ ∀ e ∈ es, e.key ≠ .string s) ∨ ∃ j e, Instr.findNow .string (.string s) es i = some (some (i + j, e.val)) ∧ es[j]? = some e ∧ e.key = .string s
  | [], i, _ => Or.inl ⟨rfl, by simp⟩
  | e :: r, i, h => by
    obtain ⟨a, ha⟩ := h e (by simp)
    by_cases hc : s = a
    · subst hc
      exact Or.inr ⟨0, e, by simp [Instr.findNow, ha, Instr.sameNow, bbeq], rfl, ha⟩
    · rcases findNow_str s r (i + 1) (fun e he => h e (by simp [he])) with ⟨h1, h2⟩ | ⟨j, e', h1, h2, h3⟩
      · refine Or.inl ⟨by simp [Instr.findNow, ha, Instr.sameNow, hc, h1, bbeq], ?_⟩
        intro e' he'
        rcases List.mem_cons.1 he' with rfl | h'
        · rw [ha]; simp; exact fun h => hc h.symm
        · exact h2 e' h'
      · exact Or.inr ⟨j + 1, e', by simp [Instr.findNow, ha, Instr.sameNow, hc, h1, bbeq]; omega, by simpa using h2, h3⟩

theorem key_str : KeyK Try.prog 9 (Value.string) where
  inj h := by cases h; rfl
  check w em a := MapKept.run_checkKey Try.underlying9 (by simp [MapKept.IsKey]) em 9999
  find w a es h := by
    rcases findNow_str a es 0 h with ⟨h1, h2⟩ | ⟨j, e, h1, h2, h3⟩
    · exact Or.inl ⟨by simp [Instr.findKey, run_underlying Try.underlying9, Result.andThen, h1], h2⟩
    · exact Or.inr ⟨j, e, by simp [Instr.findKey, run_underlying Try.underlying9, Result.andThen, h1], h2, h3⟩
  stays w a := by simp [Instr.keyThatStays, Instr.sameBits, bbeq]

def txv (t : Int × Int) : Value := .agg #[.int .u32 t.1, .int .u32 t.2]
theorem txv_inj {a b : Int × Int} (h : txv a = txv b) : a = b := by
  obtain ⟨a1, a2⟩ := a; obtain ⟨b1, b2⟩ := b
  simp [txv] at h
  obtain ⟨rfl, rfl⟩ := h; rfl
theorem findAsk (t : Int × Int) (w : World) : ∀ (es : List MapEntry) (i : Nat), (∀ e ∈ es, ∃ a', e.key = txv a') →
    ((Instr.findAsking 49 (txv t) es i).run Try.prog w = .ok none w ∧ ∀ e ∈ es, e.key ≠ txv t) ∨ ∃ j e, (Instr.findAsking 49 (txv t) es i).run Try.prog w = .ok (some (i + j, e.val)) w ∧ es[j]? = some e ∧ e.key = txv t
  | [], i, _ => Or.inl ⟨by simp [Instr.findAsking], by simp⟩
  | e :: r, i, h => by
    obtain ⟨a, ha⟩ := h e (by simp)
    have he : (Op.equal 49 (txv t) e.key).run Try.prog w = .ok (t.1 == a.1 && t.2 == a.2) w := by rw [ha]; exact eq49 _ w t.1 t.2 a.1 a.2
    by_cases hc : t = a
    · subst hc
      exact Or.inr ⟨0, e, by simp [Instr.findAsking, he, Result.andThen], rfl, ha⟩
    · have hb : (t.1 == a.1 && t.2 == a.2) = false := by
        rw [Bool.and_eq_false_iff]
        by_cases h1 : t.1 = a.1
        · right; rw [beq_eq_false_iff_ne]; intro h2; exact hc (Prod.ext h1 h2)
        · left; rw [beq_eq_false_iff_ne]; exact h1
      rw [hb] at he
      rcases findAsk t w r (i + 1) (fun e he => h e (by simp [he])) with ⟨h1, h2⟩ | ⟨j, e', h1, h2, h3⟩
      · refine Or.inl ⟨by simp [Instr.findAsking, he, Result.andThen, h1], ?_⟩
        intro e' he'
        rcases List.mem_cons.1 he' with rfl | h'
        · rw [ha]; exact fun h => hc (txv_inj h).symm
        · exact h2 e' h'
      · exact Or.inr ⟨j + 1, e', by simp [Instr.findAsking, he, Result.andThen, h1]; omega, by simpa using h2, h3⟩
theorem key_txn : KeyK Try.prog 49 txv where
  inj h := txv_inj h
  check w em a := by kernel_rfl
  find w a es h := by
    have hn : Instr.findNow (.struct #[]) (txv a) es 0 = none ∨ es = [] := by
      cases es with
      | nil => exact Or.inr rfl
      | cons e r => exact Or.inl (by simp [Instr.findNow, Instr.sameNow])
    rcases findAsk a w es 0 h with ⟨h1, h2⟩ | ⟨j, e, h1, h2, h3⟩
    · refine Or.inl ⟨?_, h2⟩
      cases es with
      | nil => simp [Instr.findKey, run_underlying Try.underlying49, Result.andThen, Instr.findNow]
      | cons e r => simp [Instr.findKey, run_underlying Try.underlying49, Result.andThen, Instr.findNow, Instr.sameNow, h1]
    · refine Or.inr ⟨j, e, ?_, h2, h3⟩
      cases es with
      | nil => simp at h2
      | cons e' r => simp only [Nat.zero_add] at h1; simp [Instr.findKey, run_underlying Try.underlying49, Result.andThen, Instr.findNow, Instr.sameNow, h1]
  stays w a := by simp [Instr.keyThatStays, Instr.sameBits, txv]

theorem split_at' {γ : Type} (l : List γ) (j : Nat) (h : j < l.length) : l = l.take j ++ l[j] :: l.drop (j + 1) := by simp

def upd {α β : Type} [DecidableEq α] (f : α → Option β) (a : α) (v : β) : α → Option β := fun x => if x = a then some v else f x
def del {α β : Type} [DecidableEq α] (f : α → Option β) (a : α) : α → Option β := fun x => if x = a then none else f x

section
variable {α β : Type} [DecidableEq α] {P : Program} {k : TypeId} {K : α → Value} {V : β → Value}

/-- The entries read as f. -/
structure Ents (K : α → Value) (V : β → Value) (l : List MapEntry) (clock : Nat) (f : α → Option β) : Prop where
  keys : ∀ x ∈ l, ∃ a v, x.key = K a ∧ x.val = V v ∧ f a = some v
  has : ∀ a v, f a = some v → ∃ x ∈ l, x.key = K a ∧ x.val = V v
  apart : (l.map (·.key)).Nodup
  born : (l.map (·.born)).Nodup
  old : ∀ x ∈ l, x.born < clock

omit [DecidableEq α] in
theorem Ents.keyed {l : List MapEntry} {clock : Nat} {f : α → Option β} (h : Ents K V l clock f) : ∀ e ∈ l, ∃ a', e.key = K a' := fun e he => by
  obtain ⟨a, _, h1, _⟩ := h.keys e he
  exact ⟨a, h1⟩
omit [DecidableEq α] in
theorem Ents.at {l : List MapEntry} {clock : Nat} {f : α → Option β} (h : Ents K V l clock f) (L : KeyK P k K) {x : MapEntry} (hx : x ∈ l) {a : α} (ha : x.key = K a) : ∃ v, f a = some v ∧ x.val = V v := by
  obtain ⟨a', v, h1, h2, h3⟩ := h.keys x hx
  obtain rfl := L.inj (h1.symm.trans ha)
  exact ⟨v, h3, h2⟩
omit [DecidableEq α] in
theorem Ents.none {l : List MapEntry} {clock : Nat} {f : α → Option β} (h : Ents K V l clock f) {a : α} (hn : ∀ e ∈ l, e.key ≠ K a) : f a = none := by
  cases hf : f a with
  | none => rfl
  | some v =>
    obtain ⟨x, hx, h1, _⟩ := h.has a v hf
    exact absurd h1 (hn x hx)
theorem Ents.push {l : List MapEntry} {clock : Nat} {f : α → Option β} (F : Ents K V l clock f) (L : KeyK P k K) (a : α) (v : β) (h2 : ∀ e ∈ l, e.key ≠ K a) : Ents K V (l ++ [{ key := K a, val := V v, born := clock }]) (clock + 1) (upd f a v) := by
  refine ⟨?_, ?_, ?_, ?_, ?_⟩
  · intro x hx
    simp only [List.mem_append, List.mem_singleton] at hx
    rcases hx with hx | rfl
    · obtain ⟨a', v', g1, g2, g3⟩ := F.keys x hx
      have hne : a' ≠ a := fun e => h2 x hx (by rw [g1, e])
      exact ⟨a', v', g1, g2, by simp [upd, hne, g3]⟩
    · exact ⟨a, v, rfl, rfl, by simp [upd]⟩
  · intro a' v' ha'
    by_cases he : a' = a
    · subst he
      simp [upd] at ha'
      subst ha'
      exact ⟨_, by simp only [List.mem_append, List.mem_singleton]; exact Or.inr rfl, rfl, rfl⟩
    · simp [upd, he] at ha'
      obtain ⟨x, hx, g1, g2⟩ := F.has a' v' ha'
      exact ⟨x, by simp only [List.mem_append]; exact Or.inl hx, g1, g2⟩
  · rw [List.map_append, List.nodup_append]
    refine ⟨F.apart, by simp, fun x hx y hy => ?_⟩
    obtain ⟨x', hx', rfl⟩ := List.mem_map.1 hx
    simp at hy
    rw [hy]
    exact h2 x' hx'
  · rw [List.map_append, List.nodup_append]
    refine ⟨F.born, by simp, fun x hx y hy => ?_⟩
    obtain ⟨x', hx', rfl⟩ := List.mem_map.1 hx
    simp at hy
    have := F.old x' hx'
    omega
  · intro x hx
    simp only [List.mem_append, List.mem_singleton] at hx
    rcases hx with hx | rfl
    · have := F.old x hx; omega
    · simp
omit [DecidableEq α] in
theorem Ents.other {l1 l2 : List MapEntry} {e0 : MapEntry} {clock : Nat} {f : α → Option β} (F : Ents K V (l1 ++ e0 :: l2) clock f) : ∀ x, x ∈ l1 ∨ x ∈ l2 → x.key ≠ e0.key := by
  have h := F.apart
  rw [List.map_append, List.map_cons, List.nodup_append, List.nodup_cons] at h
  intro x hx e
  rcases hx with hx | hx
  · exact h.2.2 x.key (List.mem_map.2 ⟨x, hx, rfl⟩) e0.key (by simp) e
  · exact h.2.1.1 (List.mem_map.2 ⟨x, hx, e⟩)
theorem Ents.set {l1 l2 : List MapEntry} {e0 : MapEntry} {clock : Nat} {f : α → Option β} (F : Ents K V (l1 ++ e0 :: l2) clock f) (L : KeyK P k K) (a : α) (v : β) (h3 : e0.key = K a) : Ents K V (l1 ++ { e0 with key := K a, val := V v } :: l2) clock (upd f a v) := by
  have ho := F.other
  refine ⟨?_, ?_, ?_, ?_, ?_⟩
  · intro x hx
    simp only [List.mem_append, List.mem_cons] at hx
    have : x = { e0 with key := K a, val := V v } ∨ (x ∈ l1 ∨ x ∈ l2) := by rcases hx with h | h | h <;> simp [h]
    rcases this with rfl | hx
    · exact ⟨a, v, rfl, rfl, by simp [upd]⟩
    · obtain ⟨a', v', g1, g2, g3⟩ := F.keys x (by simp only [List.mem_append, List.mem_cons]; rcases hx with h | h <;> simp [h])
      have hne : a' ≠ a := fun e => ho x hx (by rw [g1, e, h3])
      exact ⟨a', v', g1, g2, by simp [upd, hne, g3]⟩
  · intro a' v' ha'
    by_cases he : a' = a
    · subst he
      simp [upd] at ha'
      subst ha'
      exact ⟨{ e0 with key := K a', val := V v }, by simp, rfl, rfl⟩
    · simp [upd, he] at ha'
      obtain ⟨x, hx, g1, g2⟩ := F.has a' v' ha'
      refine ⟨x, ?_, g1, g2⟩
      simp only [List.mem_append, List.mem_cons] at hx ⊢
      rcases hx with h | rfl | h
      · exact Or.inl h
      · exact absurd (L.inj (g1.symm.trans h3)) he
      · exact Or.inr (Or.inr h)
  · have h := F.apart
    simp only [List.map_append, List.map_cons] at h ⊢
    rw [h3] at h; exact h
  · have h := F.born
    simp only [List.map_append, List.map_cons] at h ⊢
    exact h
  · intro x hx
    simp only [List.mem_append, List.mem_cons] at hx
    rcases hx with h | rfl | h
    · exact F.old x (by simp [h])
    · exact F.old e0 (by simp)
    · exact F.old x (by simp [h])
theorem Ents.erase {l1 l2 : List MapEntry} {e0 : MapEntry} {clock : Nat} {f : α → Option β} (F : Ents K V (l1 ++ e0 :: l2) clock f) (L : KeyK P k K) (a : α) (h3 : e0.key = K a) : Ents K V (l1 ++ l2) clock (del f a) := by
  have ho := F.other
  refine ⟨?_, ?_, ?_, ?_, ?_⟩
  · intro x hx
    rw [List.mem_append] at hx
    obtain ⟨a', v', g1, g2, g3⟩ := F.keys x (by simp only [List.mem_append, List.mem_cons]; rcases hx with h | h <;> simp [h])
    have hne : a' ≠ a := fun e => ho x hx (by rw [g1, e, h3])
    exact ⟨a', v', g1, g2, by simp [del, hne, g3]⟩
  · intro a' v' ha'
    by_cases he : a' = a
    · subst he
      simp [del] at ha'
    · simp [del, he] at ha'
      obtain ⟨x, hx, g1, g2⟩ := F.has a' v' ha'
      refine ⟨x, ?_, g1, g2⟩
      simp only [List.mem_append, List.mem_cons] at hx ⊢
      rcases hx with h | rfl | h
      · exact Or.inl h
      · exact absurd (L.inj (g1.symm.trans h3)) he
      · exact Or.inr h
  · exact F.apart.sublist ((List.Sublist.refl _ |>.append (List.sublist_cons_self _ _)).map _)
  · exact F.born.sublist ((List.Sublist.refl _ |>.append (List.sublist_cons_self _ _)).map _)
  · exact fun x hx => F.old x ((List.Sublist.refl _ |>.append (List.sublist_cons_self _ _)).subset hx)

/-- Block b of w is a map that reads as f. -/
def MapIs (K : α → Value) (V : β → Value) (w : World) (b : Nat) (f : α → Option β) : Prop := ∃ es clock, w.heap[b]? = some (.map es clock) ∧ Ents K V es.toList clock f

omit [DecidableEq α] in
theorem MapIs.made (K : α → Value) (V : β → Value) (w : World) : MapIs K V (w.alloc (.map #[] 0)) w.heap.size (fun _ => none) :=
  ⟨#[], 0, (MapKept.heap_alloc w _).1, ⟨by simp, by simp, by simp, by simp, by simp⟩⟩
omit [DecidableEq α] in
theorem MapIs.of_block {w w' : World} {b : Nat} {f : α → Option β} (h : MapIs K V w b f) (hb : w'.heap[b]? = w.heap[b]?) : MapIs K V w' b f := by
  obtain ⟨es, clock, h1, h2⟩ := h
  exact ⟨es, clock, hb.trans h1, h2⟩
omit [DecidableEq α] in
theorem MapIs.lt {w : World} {b : Nat} {f : α → Option β} (h : MapIs K V w b f) : b < w.heap.size := by
  obtain ⟨es, clock, h1, h2⟩ := h
  exact (Array.getElem?_eq_some_iff.1 h1).1
omit [DecidableEq α] in
theorem MapIs.congr {w : World} {b : Nat} {f g : α → Option β} (h : MapIs K V w b f) (e : ∀ a, f a = g a) : MapIs K V w b g := by
  rwa [funext e] at h

omit [DecidableEq α] in
theorem MapIs.lookup {w : World} {b : Nat} {f : α → Option β} (h : MapIs K V w b f) (L : KeyK P k K) {t e : TypeId} (ht : P.underlying t = some (.map k e)) {z : Value} (hz : (zeroValue e).run P w = .ok z w) (a : α) (c : Bool) :
    (Instr.lookup t (.map (some b)) (K a) c).run P w = .ok (if c then .tuple #[((f a).map V).getD z, .bool (f a).isSome] else ((f a).map V).getD z) w := by
  obtain ⟨es, clock, hb, F⟩ := h
  rcases L.find w a es.toList F.keyed with ⟨h1, h2⟩ | ⟨j, e0, h1, h2, h3⟩
  · have hn := F.none h2
    cases c <;> simp [Instr.lookup, run_underlying ht, MapKept.run_getObj_map hb, L.check, h1, hz, Result.andThen, hn]
  · have hm : e0 ∈ es.toList := List.mem_of_getElem? h2
    obtain ⟨v, h4, h5⟩ := F.at L hm h3
    cases c <;> simp [Instr.lookup, run_underlying ht, MapKept.run_getObj_map hb, L.check, h1, Result.andThen, h4, h5]

theorem set_grown {w : World} {b : Nat} {es : Array MapEntry} {clock : Nat} (hb : w.heap[b]? = some (.map es clock)) (o : Obj) : w.grownBy (setBlock w b o) (some b) := ⟨rfl, rfl, rfl, by simp [setBlock], fun i _ hi => heap_setBlock_other hb _ (fun e => hi (by rw [e]))⟩

theorem MapIs.update {w : World} {b : Nat} {f : α → Option β} (h : MapIs K V w b f) (L : KeyK P k K) {t e : TypeId} (ht : P.underlying t = some (.map k e)) (a : α) (v : β) :
    ∃ w', (Instr.mapUpdate t (.map (some b)) (K a) (V v)).run P w = .ok () w' ∧ MapIs K V w' b (upd f a v) ∧ w.grownBy w' (some b) ∧ w'.heap.size = w.heap.size := by
  obtain ⟨es, clock, hb, F⟩ := h
  rcases L.find w a es.toList F.keyed with ⟨h1, h2⟩ | ⟨j, e0, h1, h2, h3⟩
  · refine ⟨setBlock w b (.map (es.push { key := K a, val := V v, born := clock }) (clock + 1)), ?_, ⟨_, _, heap_setBlock_same hb _, ?_⟩, set_grown hb _, by simp [setBlock]⟩
    · simp [Instr.mapUpdate, run_underlying ht, MapKept.run_getObj_map hb, L.check, h1, MapKept.run_setObj_map _ hb, Result.andThen, setBlock]
    · rw [Array.toList_push]; exact F.push L a v h2
  · have hj : es[j]? = some e0 := by simpa using h2
    obtain ⟨hlt, hj'⟩ := List.getElem?_eq_some_iff.1 h2
    refine ⟨setBlock w b (.map (es.modify j fun e => { e with key := K a, val := V v }) clock), ?_, ⟨_, _, heap_setBlock_same hb _, ?_⟩, set_grown hb _, by simp [setBlock]⟩
    · simp [Instr.mapUpdate, run_underlying ht, MapKept.run_getObj_map hb, L.check, h1, hj, h3, L.stays, MapKept.run_setObj_map _ hb, Result.andThen, setBlock]
    · have e1 : es.toList = es.toList.take j ++ e0 :: es.toList.drop (j + 1) := by rw [← hj']; exact split_at' _ _ hlt
      rw [Array.toList_modify, List.modify_eq_take_cons_drop hlt, hj']
      rw [e1] at F
      exact F.set L a v h3

theorem MapIs.delete {w : World} {b : Nat} {f : α → Option β} (h : MapIs K V w b f) (L : KeyK P k K) {t e ty : TypeId} (ht : P.underlying t = some (.map k e)) (a : α) :
    ∃ w', (Builtin.delete_ #[t, k] ty #[.map (some b), K a]).run P w = .ok (.tuple #[]) w' ∧ MapIs K V w' b (del f a) ∧ w.grownBy w' (some b) ∧ w'.heap.size = w.heap.size := by
  obtain ⟨es, clock, hb, F⟩ := h
  rcases L.find w a es.toList F.keyed with ⟨h1, h2⟩ | ⟨j, e0, h1, h2, h3⟩
  · refine ⟨setBlock w b (.map es clock), ?_, ⟨_, _, heap_setBlock_same hb _, ?_⟩, set_grown hb _, by simp [setBlock]⟩
    · simp [Builtin.delete_, run_underlying ht, MapKept.run_getObj_map hb, L.check, h1, MapKept.run_setObj_map _ hb, Result.andThen, setBlock]
    · have : del f a = f := funext fun x => by
        by_cases hx : x = a
        · subst hx; simp [del, F.none h2]
        · simp [del, hx]
      rw [this]; exact F
  · obtain ⟨hlt, hj'⟩ := List.getElem?_eq_some_iff.1 h2
    refine ⟨setBlock w b (.map (es.eraseIdxIfInBounds j) clock), ?_, ⟨_, _, heap_setBlock_same hb _, ?_⟩, set_grown hb _, by simp [setBlock]⟩
    · simp [Builtin.delete_, run_underlying ht, MapKept.run_getObj_map hb, L.check, h1, MapKept.run_setObj_map _ hb, Result.andThen, setBlock]
    · have e1 : es.toList = es.toList.take j ++ e0 :: es.toList.drop (j + 1) := by rw [← hj']; exact split_at' _ _ hlt
      rw [Array.toList_eraseIdxIfInBounds, List.eraseIdx_eq_take_drop_succ]
      rw [e1] at F
      exact F.erase L a h3

omit [DecidableEq α] in
theorem born_eq : ∀ {l : List MapEntry}, l.Pairwise (fun x y => x.born ≠ y.born) → ∀ {x y : MapEntry}, x ∈ l → y ∈ l → x.born = y.born → x = y
  | [], _, _, _, hx, _, _ => by simp at hx
  | a :: r, hp, x, y, hx, hy, h => by
    obtain ⟨h1, h2⟩ := List.pairwise_cons.1 hp
    rcases List.mem_cons.1 hx with rfl | hx'
    · rcases List.mem_cons.1 hy with rfl | hy'
      · rfl
      · exact absurd h (h1 y hy')
    · rcases List.mem_cons.1 hy with rfl | hy'
      · exact absurd h.symm (h1 x hx')
      · exact born_eq h2 hx' hy' h

/-- A range over block b, its iterator in block r; vis: the keys that it has seen; cnt: how many are left. -/
def Ranging (K : α → Value) (V : β → Value) (w : World) (b r : Nat) (f : α → Option β) (vis : α → Prop) (cnt : Nat) : Prop :=
  ∃ es clock since seen c0, w.heap[b]? = some (.map es clock) ∧ Ents K V es.toList clock f ∧ w.heap[r]? = some (.mapIter (some b) since seen c0) ∧ (∀ x ∈ es.toList, x.born < since) ∧ since ≤ c0 ∧ since ≤ clock ∧
    (∀ x ∈ es.toList, ∀ a, x.key = K a → (vis a ↔ x.born ∈ seen)) ∧ (leftOf es seen).size = cnt

def rLeft (w : World) (b r : Nat) : Nat :=
  match w.heap[b]?, w.heap[r]? with
  | some (.map es _), some (.mapIter _ _ seen _) => (leftOf es seen).size
  | _, _ => 0
omit [DecidableEq α] in
theorem Ranging.left_eq {w : World} {b r : Nat} {f : α → Option β} {vis : α → Prop} {cnt : Nat} (h : Ranging K V w b r f vis cnt) : rLeft w b r = cnt := by
  obtain ⟨es, clock, since, seen, c0, hb, _, hr, _, _, _, _, hc⟩ := h
  simp only [rLeft, hb, hr]
  exact hc
omit [DecidableEq α] in
theorem Ranging.is {w : World} {b r : Nat} {f : α → Option β} {vis : α → Prop} {cnt : Nat} (h : Ranging K V w b r f vis cnt) : MapIs K V w b f := by
  obtain ⟨es, clock, since, seen, c0, hb, F, _⟩ := h
  exact ⟨es, clock, hb, F⟩
omit [DecidableEq α] in
theorem Ranging.lt {w : World} {b r : Nat} {f : α → Option β} {vis : α → Prop} {cnt : Nat} (h : Ranging K V w b r f vis cnt) : r < w.heap.size ∧ r ≠ b := by
  obtain ⟨es, clock, since, seen, c0, hb, F, hr, _⟩ := h
  refine ⟨(Array.getElem?_eq_some_iff.1 hr).1, fun e => ?_⟩
  rw [e, hb] at hr
  cases hr
omit [DecidableEq α] in
theorem Ranging.of_block {w w' : World} {b r : Nat} {f : α → Option β} {vis : α → Prop} {cnt : Nat} (h : Ranging K V w b r f vis cnt) (hb : w'.heap[b]? = w.heap[b]?) (hr : w'.heap[r]? = w.heap[r]?) : Ranging K V w' b r f vis cnt := by
  obtain ⟨es, clock, since, seen, c0, h1, F, h2, h3⟩ := h
  exact ⟨es, clock, since, seen, c0, hb.trans h1, F, hr.trans h2, h3⟩
omit [DecidableEq α] in
theorem MapIs.range {w : World} {b : Nat} {f : α → Option β} (h : MapIs K V w b f) {t e : TypeId} (ht : P.underlying t = some (.map k e)) :
    ∃ w' cnt, (Instr.range t (.map (some b))).run P w = .ok (.pointer (some ⟨w.heap.size, 0, none⟩)) w' ∧ Ranging K V w' b w.heap.size f (fun _ => False) cnt ∧ w.grownBy w' none ∧ w'.heap.size = w.heap.size + 1 := by
  have hlt := h.lt
  obtain ⟨es, clock, hb, F⟩ := h
  exact ⟨_, _, run_range_map w t k e b es clock ht hb, ⟨es, clock, clock, #[], clock, ((MapKept.heap_alloc w _).2 b hlt).trans hb, F, (MapKept.heap_alloc w _).1, F.old, Nat.le_refl _, Nat.le_refl _, fun x hx a _ => by simp, rfl⟩, World.grownBy_alloc w _ none, by simp⟩

omit [DecidableEq α] in
theorem Ranging.next {w : World} {b r : Nat} {f : α → Option β} {vis : α → Prop} {cnt : Nat} (h : Ranging K V w b r f vis cnt) (L : KeyK P k K) (ty : TypeId) :
    (cnt = 0 ∧ (∀ a v, f a = some v → vis a) ∧ (Instr.next (.pointer (some ⟨r, 0, none⟩)) false ty).run P w = .ok (.tuple #[.bool false]) w) ∨
    ∃ a v w' cnt', f a = some v ∧ ¬ vis a ∧ (Instr.next (.pointer (some ⟨r, 0, none⟩)) false ty).run P w = .ok (.tuple #[.bool true, K a, V v]) w' ∧
      Ranging K V w' b r f (fun x => vis x ∨ x = a) cnt' ∧ cnt' < cnt ∧ w.grownBy w' (some r) ∧ w'.heap.size = w.heap.size ∧ (Instr.entry (.pointer (some ⟨r, 0, none⟩))).run P w' = .ok (.tuple #[K a, V v]) w' := by
  have hne := h.lt.2
  obtain ⟨es, clock, since, seen, c0, hb, F, hr, hold, hsc, hsk, hvis, hcnt⟩ := h
  have hleft : ∀ x, x ∈ (leftOf es seen).toList ↔ x ∈ es.toList ∧ ¬ x.born ∈ seen := fun x => by simp [leftOf]
  rcases run_next_at (P := P) w ty r b since c0 seen es clock hr hb hold hsc with ⟨h0, hrun⟩ | ⟨e, he, w1, hal, hrun⟩
  · refine Or.inl ⟨by omega, fun a v hf => ?_, hrun⟩
    obtain ⟨x, hx, g1, g2⟩ := F.has a v hf
    refine (hvis x hx a g1).2 ?_
    by_cases hs : x.born ∈ seen
    · exact hs
    · have := (hleft x).2 ⟨hx, hs⟩
      rw [Array.eq_empty_of_size_eq_zero h0] at this
      simp at this
  · obtain ⟨he1, he2⟩ := (hleft e).1 he
    obtain ⟨a, v, g1, g2, g3⟩ := F.keys e he1
    rw [g1, g2] at hrun
    have hb1 : w1.heap = w.heap := by rcases hal with rfl | rfl <;> rfl
    have hset : (setBlock w1 r (.mapIter (some b) since (seen.push e.born) clock)).heap = w.heap.setIfInBounds r (.mapIter (some b) since (seen.push e.born) clock) := by simp [setBlock, hb1]
    have hlt := (Array.getElem?_eq_some_iff.1 hr).1
    have hgr : w.grownBy (setBlock w1 r (.mapIter (some b) since (seen.push e.born) clock)) (some r) := by
      refine ⟨?_, ?_, ?_, ?_, ?_⟩
      · rcases hal with rfl | rfl <;> rfl
      · rcases hal with rfl | rfl <;> rfl
      · rcases hal with rfl | rfl <;> rfl
      · rw [hset]; simp
      · intro i _ hi
        rw [hset, Array.getElem?_setIfInBounds_ne (fun e => hi (by rw [e]))]
    have hb' : (setBlock w1 r (.mapIter (some b) since (seen.push e.born) clock)).heap[b]? = some (.map es clock) := (hgr.block b (Array.getElem?_eq_some_iff.1 hb).1 (fun e => hne (by injection e with e; exact e.symm))).trans hb
    have hr' : (setBlock w1 r (.mapIter (some b) since (seen.push e.born) clock)).heap[r]? = some (.mapIter (some b) since (seen.push e.born) clock) := by rw [hset]; simp [hlt]
    refine Or.inr ⟨a, v, _, (leftOf es (seen.push e.born)).size, g3, fun hv => he2 ((hvis e he1 a g1).1 hv), hrun, ⟨es, clock, since, seen.push e.born, clock, hb', F, hr', hold, hsk, hsk, ?_, rfl⟩, ?_, hgr, by rw [hset]; simp, ?_⟩
    · intro x hx a' ha'
      show (vis a' ∨ a' = a) ↔ _
      rw [hvis x hx a' ha', Array.mem_push]
      constructor
      · rintro (h | rfl)
        · exact Or.inl h
        · right
          have := entry_eq_of_key (List.pairwise_map.1 F.apart) hx he1 (ha'.trans g1.symm)
          rw [this]
      · rintro (h | h)
        · exact Or.inl h
        · right
          have hxe : x = e := by
            have hn := F.born
            have hp : es.toList.Pairwise (fun x y => x.born ≠ y.born) := List.pairwise_map.1 hn
            exact born_eq hp hx he1 h
          subst hxe
          exact L.inj (ha'.symm.trans g1)
    · rw [← hcnt, ← Array.length_toList, ← Array.length_toList]
      have : (leftOf es (seen.push e.born)).toList = (leftOf es seen).toList.filter fun x => x.born != e.born := by
        simp only [leftOf, Array.toList_filter, List.filter_filter]
        refine List.filter_congr fun x _ => ?_
        by_cases h1 : x.born = e.born
        · simp [h1]
        · have h2 : (x.born != e.born) = true := by simpa using h1
          rw [h2]
          by_cases h3 : x.born ∈ seen
          · simp [h3]
          · simp [h3, h1]
      rw [this]
      exact List.length_filter_lt_length_iff_exists.2 ⟨e, he, by simp⟩
    · rw [← g1, ← g2]
      exact run_entry_at _ r b since seen es clock e hr' hb' he1 F.born

variable {w : World} {ops : Array Oper} {rest : List Oper} {o : Oper} {a : Act} {Q : Exit → Act → World → Prop}
omit [DecidableEq α] in
theorem wpList_look (hg : o.guard = none) (m x : Operand) (t : TypeId) (c : Bool) (hop : o.op = Op.lookup t m x c) (L : KeyK P k K) (e : TypeId) (ht : P.underlying t = some (.map k e)) (z : Value) (hz : (zeroValue e).run P w = .ok z w)
    (b : Nat) (f : α → Option β) (y : α) (h : MapIs K V w b f) (hm : a.eval m = .map (some b)) (hx : a.eval x = K y)
    (hK : wpList P ops Q rest (a.put o.dst (if c then .tuple #[((f y).map V).getD z, .bool (f y).isSome] else ((f y).map V).getD z)) w) : wpList P ops Q (o :: rest) a w := by
  refine wpList_plain hg fun K' hK' => ?_
  unfold Oper.wp
  simp [execOp, hop, hm, hx, h.lookup L ht hz y c, Result.andThen]
  exact hK' _ _ hK
theorem wpList_put (hg : o.guard = none) (m x v : Operand) (t : TypeId) (hop : o.op = Op.mapUpdate t m x v) (L : KeyK P k K) (e : TypeId) (ht : P.underlying t = some (.map k e))
    (b : Nat) (f : α → Option β) (y : α) (u : β) (h : MapIs K V w b f) (hm : a.eval m = .map (some b)) (hx : a.eval x = K y) (hv : a.eval v = V u)
    (hK : ∀ w', MapIs K V w' b (upd f y u) → w.grownBy w' (some b) → w'.heap.size = w.heap.size → wpList P ops Q rest (a.put o.dst undef) w') : wpList P ops Q (o :: rest) a w := by
  refine wpList_plain hg fun K' hK' => ?_
  obtain ⟨w', hrun, r1, r2, r3⟩ := h.update L ht y u
  unfold Oper.wp
  simp [execOp, hop, hm, hx, hv, hrun, Result.andThen]
  exact hK' _ _ (hK w' r1 r2 r3)
theorem wpList_del (hg : o.guard = none) (m x : Operand) (t : TypeId) (hop : o.op = Op.call { callee := Callee.builtin Builtin.delete, args := #[m, x], argTypes := #[t, k] }) (L : KeyK P k K) (e : TypeId) (ht : P.underlying t = some (.map k e))
    (b : Nat) (f : α → Option β) (y : α) (h : MapIs K V w b f) (hm : a.eval m = .map (some b)) (hx : a.eval x = K y)
    (hK : ∀ w', MapIs K V w' b (del f y) → w.grownBy w' (some b) → w'.heap.size = w.heap.size → wpList P ops Q rest (a.put o.dst (.tuple #[])) w') : wpList P ops Q (o :: rest) a w := by
  refine wpList_plain hg fun K' hK' => ?_
  obtain ⟨w', hrun, r1, r2, r3⟩ := h.delete (ty := o.type) L ht y
  unfold Oper.wp
  simp [execOp, hop, resolve, invoke, builtin, hm, hx, hrun, Result.andThen]
  exact hK' _ _ (hK w' r1 r2 r3)
omit [DecidableEq α] in
theorem wpList_range (hg : o.guard = none) (m : Operand) (t : TypeId) (hop : o.op = Op.range t m) (e : TypeId) (ht : P.underlying t = some (.map k e))
    (b : Nat) (f : α → Option β) (h : MapIs K V w b f) (hm : a.eval m = .map (some b))
    (hK : ∀ w' cnt, Ranging K V w' b w.heap.size f (fun _ => False) cnt → w.grownBy w' none → w'.heap.size = w.heap.size + 1 → wpList P ops Q rest (a.put o.dst (.pointer (some ⟨w.heap.size, 0, none⟩))) w') : wpList P ops Q (o :: rest) a w := by
  refine wpList_plain hg fun K' hK' => ?_
  obtain ⟨w', cnt, hrun, r1, r2, r3⟩ := h.range ht
  unfold Oper.wp
  simp [execOp, hop, hm, hrun, Result.andThen]
  exact hK' _ _ (hK w' cnt r1 r2 r3)
omit [DecidableEq α] in
theorem wpList_next (hg : o.guard = none) (it : Operand) (hop : o.op = Op.next it false) (L : KeyK P k K)
    (b r : Nat) (f : α → Option β) (vis : α → Prop) (cnt : Nat) (h : Ranging K V w b r f vis cnt) (hit : a.eval it = .pointer (some ⟨r, 0, none⟩))
    (hDone : cnt = 0 → (∀ y u, f y = some u → vis y) → wpList P ops Q rest (a.put o.dst (.tuple #[.bool false])) w)
    (hMore : ∀ y u w' cnt', f y = some u → ¬ vis y → Ranging K V w' b r f (fun x => vis x ∨ x = y) cnt' → cnt' < cnt → w.grownBy w' (some r) → w'.heap.size = w.heap.size →
      (Instr.entry (.pointer (some ⟨r, 0, none⟩))).run P w' = .ok (.tuple #[K y, V u]) w' → wpList P ops Q rest (a.put o.dst (.tuple #[.bool true, K y, V u])) w') : wpList P ops Q (o :: rest) a w := by
  refine wpList_plain hg fun K' hK' => ?_
  unfold Oper.wp
  rcases h.next L o.type with ⟨h0, hl, hrun⟩ | ⟨y, u, w', cnt', g1, g2, hrun, hrg, hlt, hgr, hsz, hen⟩
  · simp [execOp, hop, hit, hrun, Result.andThen]
    exact hK' _ _ (hDone h0 hl)
  · simp [execOp, hop, hit, hrun, Result.andThen]
    exact hK' _ _ (hMore y u w' cnt' g1 g2 hrg hlt hgr hsz hen)

end
end Go.Proofs.Ytnojphaipfmiiaa
