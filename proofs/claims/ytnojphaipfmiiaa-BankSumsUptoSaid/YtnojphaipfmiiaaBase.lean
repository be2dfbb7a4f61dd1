/- Words for the proof of BankSums: worlds that only grew, raw structs, rows of structs in memory. No condition. -/
import Derived.Test.YtnojphaipfmiiaaProg
import Derived.WalkKit
import Derived.ProofKit
import Derived.Below
import Derived.Deep.LoopGhost
import Derived.Deep.QuietTactic
import Derived.Deep.MidRow
import Derived.BigQuiet
import Derived.Outline
import Derived.WalkSpells
import Derived.WalkLawsBesides
import Derived.Lib.Hide
import Derived.Shelf.SlSortCmp.QuietGrown
import Derived.Laws.StructEq
namespace Go.Proofs.Ytnojphaipfmiiaa
open Go.RowKit Go.Sort

/-- Draws, and blocks laid behind: nothing else. -/
def Gr (w w' : World) : Prop := ∃ p : GrownBy, w' = grow (w.drewN p.n) p.os
theorem Gr.refl (w : World) : Gr w w := ⟨⟨0, #[]⟩, by rw [grow_empty]; rfl⟩
theorem Gr.trans {a b c : World} (h : Gr a b) (k : Gr b c) : Gr a c := by
  obtain ⟨⟨n, os⟩, rfl⟩ := h
  obtain ⟨⟨m, os'⟩, rfl⟩ := k
  exact ⟨⟨n + m, os ++ os'⟩, by show grow (grow ((a.drewN n).drewN m) os) os' = _; rw [grow_grow, World.drewN_drewN]⟩
theorem Gr.one_alloc (w : World) (o : Obj) : Gr w (w.alloc o) := ⟨⟨0, #[o]⟩, by rw [alloc_eq_grow]; rfl⟩
theorem Gr.alloc {a w : World} (h : Gr a w) (o : Obj) : Gr a (w.alloc o) := h.trans (Gr.one_alloc w o)
theorem Gr.drewN {a w : World} (h : Gr a w) (n : Nat) : Gr a (w.drewN n) := h.trans ⟨⟨n, #[]⟩, by rw [grow_empty]⟩
theorem Gr.drew {a w : World} (h : Gr a w) : Gr a w.drew := h.drewN 1
theorem Gr.grown {a w : World} (h : Gr a w) (n : Nat) (os : Array Obj) : Gr a (grow (w.drewN n) os) := h.trans ⟨⟨n, os⟩, rfl⟩
theorem Gr.below {a w : World} (h : Gr a w) : Below a.heap.size a w := by
  obtain ⟨⟨n, os⟩, rfl⟩ := h
  refine ⟨rfl, rfl, rfl, ?_, fun k hk => ?_⟩
  · show a.heap.size ≤ (a.heap ++ os).size
    simp
  · show (a.heap ++ os)[k]? = a.heap[k]?
    rw [Array.getElem?_append_left hk]
theorem Gr.size {a w : World} (h : Gr a w) : a.heap.size ≤ w.heap.size := h.below.size
theorem Gr.quiet {P : Program} {f : FuncId} {args : Array Value} {w : World} {n : Nat} {os : Array Obj} {v : Value}
    (h : Calls P f args (grow (w.drewN n) os) fun e w' => e = .returned v ∧ Gr (grow (w.drewN n) os) w') : Calls P f args (grow (w.drewN n) os) fun e w'' => e = .returned v ∧ ∃ p : GrownBy, w'' = grow (w.drewN p.n) p.os :=
  h.mono fun _ _ ⟨he, g⟩ => ⟨he, ((Gr.refl w).grown n os).trans g⟩
theorem Gr.lays {w w' : World} (h : Gr w w') : ∃ q os', w' = grow (w.drewN q) os' := by
  obtain ⟨p, h⟩ := h
  exact ⟨p.n, p.os, h⟩

/-- Cells and marks below, as the walk's own rules. -/
theorem bcell {W w1 : World} (hb : Below W.heap.size W w1) : (∀ b o, b < W.heap.size → w1.cell? ⟨b, o, none⟩ = W.cell? ⟨b, o, none⟩) ∧ (∀ b o, b < W.heap.size → w1.frozen? ⟨b, o, none⟩ = W.frozen? ⟨b, o, none⟩) :=
  ⟨fun b o h => hb.cell (p := ⟨b, o, none⟩) h, fun b o h => hb.frozen (p := ⟨b, o, none⟩) h⟩

/-! '==' of structs, as one Bool -/
section
variable {P : Program} {d : Nat} {xs ys : Array Value} {f : Field} {fs : List Field} {a b : Value} {r s : Bool} {w : World}
theorem se_last (hn : (f.name == "_") = false) (ha : (part f.type xs f.offset).run P w = .ok a w) (hb : (part f.type ys f.offset).run P w = .ok b w) (he : (Op.equalIn d f.type a b).run P w = .ok r w) :
    (Op.eqFields d xs ys [f]).run P w = .ok r w := by
  have hn' : f.name ≠ "_" := by simpa using hn
  simp only [Op.eqFields, if_pos hn', Sem.run_bind, ha, hb, he, Result.andThen_ok]
  cases r <;> simp
theorem se_cons (hn : (f.name == "_") = false) (ha : (part f.type xs f.offset).run P w = .ok a w) (hb : (part f.type ys f.offset).run P w = .ok b w) (he : (Op.equalIn d f.type a b).run P w = .ok r w)
    (hr : (Op.eqFields d xs ys fs).run P w = .ok s w) : (Op.eqFields d xs ys (f :: fs)).run P w = .ok (r && s) w := by
  have hn' : f.name ≠ "_" := by simpa using hn
  rw [Op.eqFields]
  simp only [if_pos hn', Sem.run_bind, ha, hb, he, Result.andThen_ok]
  cases r
  · simp
  · simpa using hr
theorem se_of {t : TypeId} {fs : Array Field} (hu : P.underlying t = some (.struct fs)) (hp : P.stoodInHeld t = false) (h : (Op.eqFields d xs ys fs.toList).run P w = .ok r w) :
    (Op.equalIn (d + 1) t (.agg xs) (.agg ys)).run P w = .ok r w := by
  have hf : P.fieldsOf t = fs := by simp [Program.fieldsOf, hu]
  rw [run_equalIn_struct (P := P) w d t xs ys (by rw [hf]; exact hu) hp, hf]
  exact h
end
theorem eq34 (d : Nat) (w : World) (a b c x y z : Int) :
    (Op.equalIn (d + 2) 34 (.agg #[.int .u64 a, .int .u32 b, .int .u32 c]) (.agg #[.int .u64 x, .int .u32 y, .int .u32 z])).run Try.prog w = .ok (a == x && (b == y && c == z)) w := by
  refine se_of Try.underlying34 (by kernel_rfl) ?_
  refine se_cons (by rfl) (by go_simp; rfl) (by go_simp; rfl) (by go_simp) ?_
  refine se_cons (by rfl) (by go_simp; rfl) (by go_simp; rfl) (by go_simp) ?_
  exact se_last (by rfl) (by go_simp; rfl) (by go_simp; rfl) (by go_simp)
theorem eq49 (d : Nat) (w : World) (a b x y : Int) :
    (Op.equalIn (d + 2) 49 (.agg #[.int .u32 a, .int .u32 b]) (.agg #[.int .u32 x, .int .u32 y])).run Try.prog w = .ok (a == x && b == y) w := by
  refine se_of Try.underlying49 (by kernel_rfl) ?_
  refine se_cons (by rfl) (by go_simp; rfl) (by go_simp; rfl) (by go_simp) ?_
  exact se_last (by rfl) (by go_simp; rfl) (by go_simp; rfl) (by go_simp)

/-- The order of stamps. -/
def sless (a b c d e f : Int) : Bool := if a ≠ d then decide (a < d) else if b ≠ e then decide (b < e) else decide (c < f)

/-- An api.Answer, raw: its cells. -/
structure Ans where
  c : Int
  t1 : Int
  t2 : Int
  k : Int
  b1 : Bool
  b2 : Bool
  b3 : Bool
  tok : ByteArray
  key : ByteArray
  hi : ByteArray
  val : ByteArray
  lim : Int
  st : Int
  wl : Int
  lg : Int
  nd : Int
  ps : Value
  tk : ByteArray
def Ans.l (a : Ans) : List Value := [.int .u32 a.c, .int .u32 a.t1, .int .u32 a.t2, .int .i64 a.k, .bool a.b1, .bool a.b2, .bool a.b3, .string a.tok, .string a.key, .string a.hi, .string a.val, .int .i64 a.lim, .int .i64 a.st, .int .u64 a.wl, .int .u32 a.lg, .int .u32 a.nd, a.ps, .string a.tk]
/-- An api.Op, of an answer. -/
def Ans.o (a : Ans) : List Value := [.int .i64 a.k, .bool a.b1, .bool a.b2, .bool a.b3, .string a.tok, .string a.key, .string a.hi, .string a.val, .int .i64 a.lim]
/-- An api.Event, raw. -/
structure Evt where
  asked : Int
  answered : Int
  a : Ans
def Evt.l (e : Evt) : List Value := .int .i64 e.asked :: .int .i64 e.answered :: e.a.l
/-- An api.Entry. -/
structure Ent where
  c : Int
  s : Int
  h : Int
  o : Int
  w : Int
  l : Int
  n : Int
  ok : 0 ≤ c ∧ c < 4294967296 ∧ 0 ≤ s ∧ s < 4294967296
instance : Inhabited Ent := ⟨⟨0, 0, 0, 0, 0, 0, 0, by omega⟩⟩
def Ent.v (e : Ent) : List Value := [.int .u32 e.c, .int .u32 e.s, .int .u32 e.h, .int .i64 e.o, .int .u64 e.w, .int .u32 e.l, .int .u32 e.n]

/-- A row of structs of k cells in memory. -/
def RowAt {α : Type} (enc : α → List Value) (k : Nat) (w : World) (A : Option Addr) (xs : List α) : Prop :=
  ∀ i x, xs[i]? = some x → ∃ b off, A = some ⟨b, off, none⟩ ∧ w.rangeAt b (off + i * k) (enc x)
theorem RowAt.below {α : Type} {enc : α → List Value} {k : Nat} {w w1 : World} {A : Option Addr} {xs : List α} (h : RowAt enc k w A xs) (hb : Below w.heap.size w w1) : RowAt enc k w1 A xs :=
  fun i x hx => by
    obtain ⟨b, off, e, hr⟩ := h i x hx
    exact ⟨b, off, e, fun j v hv => by have := hr j v hv; rw [hb.cell (World.block_lt_of_cell? w _ this)]; exact this⟩
end Go.Proofs.Ytnojphaipfmiiaa
