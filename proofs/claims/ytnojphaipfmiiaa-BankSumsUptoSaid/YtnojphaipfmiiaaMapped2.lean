/- A store into a map, as one equation for all worlds that hold it. -/
import Derived.Test.YtnojphaipfmiiaaReadKit
namespace Go.Proofs.Ytnojphaipfmiiaa
open Go.RowKit Go.Lib
open Go.ChangeMaps (setBlock heap_setBlock_same heap_setBlock_other)
set_option linter.unusedVariables false
set_option linter.unusedSimpArgs false
theorem MapIs.upd_eq {α β : Type} [DecidableEq α] {P : Program} {k : TypeId} {K : α → Value} {V : β → Value} {w : World} {b : Nat} {f : α → Option β} (h : MapIs K V w b f) (L : KeyK P k K) {t e : TypeId} (ht : P.underlying t = some (.map k e)) (a : α) (v : β) :
    ∃ es clock, (∀ x : World, x.heap[b]? = w.heap[b]? → (Instr.mapUpdate t (.map (some b)) (K a) (V v)).run P x = .ok () (setBlock x b (.map es clock)) ∧ MapIs K V (setBlock x b (.map es clock)) b (upd f a v) ∧ x.grownBy (setBlock x b (.map es clock)) (some b)) := by
  obtain ⟨es, clock, hb, F⟩ := h
  by_cases hc : ∃ (j : Nat) (e0 : MapEntry), es.toList[j]? = some e0 ∧ e0.key = K a
  · obtain ⟨j, e0, h2, h3⟩ := hc
    have hj : es[j]? = some e0 := by simpa using h2
    obtain ⟨hlt, hj'⟩ := List.getElem?_eq_some_iff.1 h2
    refine ⟨es.modify j fun e => { e with key := K a, val := V v }, clock, fun x hx => ?_⟩
    have hb' := hx.trans hb
    refine ⟨?_, ⟨_, _, heap_setBlock_same hb' _, ?_⟩, set_grown hb' _⟩
    · rcases L.find x a es.toList F.keyed with ⟨g1, g2⟩ | ⟨j', e1, g1, g2, g3⟩
      · exact absurd h3 (g2 e0 (List.mem_of_getElem? h2))
      · have hjj : j' = j := by
          obtain ⟨hlt', hj''⟩ := List.getElem?_eq_some_iff.1 g2
          have hn := F.apart
          have e2 : (es.toList.map (·.key))[j']'(by simpa using hlt') = (es.toList.map (·.key))[j]'(by simpa using hlt) := by
            rw [List.getElem_map, List.getElem_map, hj', hj'', g3, h3]
          exact (List.getElem_inj hn).1 e2
        subst hjj
        simp [Instr.mapUpdate, run_underlying ht, MapKept.run_getObj_map hb', L.check, g1, hj, h3, L.stays, MapKept.run_setObj_map _ hb', Result.andThen, setBlock]
    · have e1 : es.toList = es.toList.take j ++ e0 :: es.toList.drop (j + 1) := by rw [← hj']; exact split_at' _ _ hlt
      rw [Array.toList_modify, List.modify_eq_take_cons_drop hlt, hj']
      rw [e1] at F
      exact F.set L a v h3
  · refine ⟨es.push { key := K a, val := V v, born := clock }, clock + 1, fun x hx => ?_⟩
    have hb' := hx.trans hb
    rcases L.find x a es.toList F.keyed with ⟨g1, g2⟩ | ⟨j', e1, g1, g2, g3⟩
    · refine ⟨?_, ⟨_, _, heap_setBlock_same hb' _, ?_⟩, set_grown hb' _⟩
      · simp [Instr.mapUpdate, run_underlying ht, MapKept.run_getObj_map hb', L.check, g1, MapKept.run_setObj_map _ hb', Result.andThen, setBlock]
      · rw [Array.toList_push]; exact F.push L a v g2
    · exact absurd ⟨j', e1, g2, g3⟩ hc
end Go.Proofs.Ytnojphaipfmiiaa
