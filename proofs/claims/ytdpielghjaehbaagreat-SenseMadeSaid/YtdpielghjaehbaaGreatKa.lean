/- maps.Keys: its iterator gives a map's keys, each once, in some order: keys that are numbers, keys of a text and a number. -/
import Derived.Shelf.SlIterI.Sorted
import Derived.Maps.RangeRun
import Derived.Test.YtdpielghjaehbaaGreatProg
set_option linter.unusedSectionVars false
set_option linter.unusedSimpArgs false
set_option linter.unusedVariables false
namespace Go.Proofs.YtdpielghjaehbaaGreat.Ev
open Go.RowKit Go.Maps Go.Sort Go.Shelf Go.Proofs

section
variable {P : Program} {F : Fence} {n : Nat} {ops : Array Oper} {Q : Exit → Act → World → Prop} {rest : List Oper} {o : Oper} {a : Act} {w : World}

/-- A fact that no tactic takes as a rule. -/
structure Hid (p : Prop) : Prop where
  out : p

/-- In a row (a name of its own, so that no rule looks inside). -/
def InA {α : Type} (E : Array α) (x : α) : Prop := x ∈ E.toList

theorem in_range_raw (hg : o.guard = none) (m : Operand) (t : TypeId) (hop : o.op = Op.range t m) {k e : TypeId} (ht : P.underlying t = some (.map k e)) (b : Nat) (es : Array MapEntry) (clock : Nat) (hm : a.eval m = .map (some b)) (hb : w.heap[b]? = some (.map es clock))
    (hK : wpListIn F n P ops Q rest (a.put o.dst (.pointer (some ⟨w.heap.size, 0, none⟩))) (w.alloc (.mapIter (some b) clock #[] clock))) : wpListIn F n P ops Q (o :: rest) a w := by
  refine wpListIn_plain hg fun K' hK' => ?_
  unfold Oper.wpIn
  refine ⟨by simp [Oper.about, hop], ?_⟩
  rw [Oper.semAt_plain F _ _ (by rw [hop]; intro c hc'; cases hc')]
  have hgo := MapKept.run_getObj_map (P := P) hb
  simp [execOp, hop, hm, Instr.range, run_underlying ht, hgo, Result.andThen]
  exact hK' _ _ hK

theorem in_next_raw (hg : o.guard = none) (it : Operand) (hop : o.op = Op.next it false) (r b since c0 : Nat) (seen : Array Nat) (es : Array MapEntry) (clock : Nat) (hit : a.eval it = .pointer (some ⟨r, 0, none⟩))
    (hr : w.heap[r]? = some (.mapIter (some b) since seen c0)) (hb : w.heap[b]? = some (.map es clock)) (hold : ∀ x ∈ es.toList, x.born < since) (hsc : since ≤ c0)
    (hDone : (∀ x, InA es x → InA seen x.born) → wpListIn F n P ops Q rest (a.put o.dst (.tuple #[.bool false])) w)
    (hMore : ∀ x, InA es x → ¬ InA seen x.born → ∀ w', w.grownBy w' (some r) → w'.heap.size = w.heap.size → w'.heap[r]? = some (.mapIter (some b) since (seen.push x.born) clock) → w'.heap[b]? = some (.map es clock) →
      wpListIn F n P ops Q rest (a.put o.dst (.tuple #[.bool true, x.key, x.val])) w') : wpListIn F n P ops Q (o :: rest) a w := by
  refine wpListIn_plain hg fun K' hK' => ?_
  unfold Oper.wpIn
  refine ⟨by simp [Oper.about, hop], ?_⟩
  rw [Oper.semAt_plain F _ _ (by rw [hop]; intro c hc'; cases hc')]
  have hbr : b ≠ r := by rintro rfl; rw [hb] at hr; cases hr
  rcases run_next_at (P := P) w o.type r b since c0 seen es clock hr hb hold hsc with ⟨hz, hrun⟩ | ⟨e, he, w1, hw1, hrun⟩
  · simp [execOp, hop, hit, hrun, Result.andThen]
    refine hK' _ _ (hDone fun x hx => ?_)
    refine Classical.byContradiction fun hn => ?_
    have hm : x ∈ (leftOf es seen).toList := by
      simp only [leftOf, Array.toList_filter, List.mem_filter]
      exact ⟨hx, by simpa [InA] using hn⟩
    have hnil : leftOf es seen = #[] := Array.eq_empty_of_size_eq_zero hz
    rw [hnil] at hm
    cases hm
  · simp [execOp, hop, hit, hrun, Result.andThen]
    simp only [leftOf, Array.toList_filter, List.mem_filter] at he
    have hw1h : w1.heap = w.heap := by rcases hw1 with rfl | rfl <;> rfl
    have hlt : r < w.heap.size := (Array.getElem?_eq_some_iff.1 hr).1
    have h1 : w1.os = w.os ∧ w1.tape = w.tape ∧ w1.output = w.output := by rcases hw1 with rfl | rfl <;> exact ⟨rfl, rfl, rfl⟩
    refine hK' _ _ (hMore e he.1 (by simpa [InA] using he.2) _ ⟨h1.1, h1.2.1, h1.2.2, by simp [ChangeMaps.setBlock, hw1h], fun k hk hkr => ?_⟩ (by simp [ChangeMaps.setBlock, hw1h]) (by simp [ChangeMaps.setBlock, hw1h, hlt]) ?_)
    · simp only [ChangeMaps.setBlock, hw1h]
      rw [Array.getElem?_setIfInBounds_ne (fun e => hkr (by rw [e]))]
    · simp only [ChangeMaps.setBlock, hw1h]
      rw [Array.getElem?_setIfInBounds_ne (fun e => hbr e.symm)]
      exact hb

theorem in_entry_raw (hg : o.guard = none) (it : Operand) (hop : o.op = Op.entry it) (r b since : Nat) (seen : Array Nat) (es : Array MapEntry) (clock : Nat) (e : MapEntry) (hit : a.eval it = .pointer (some ⟨r, 0, none⟩))
    (hr : w.heap[r]? = some (.mapIter (some b) since (seen.push e.born) clock)) (hb : w.heap[b]? = some (.map es clock)) (he : e ∈ es.toList) (hn : (es.toList.map (·.born)).Nodup)
    (hK : wpListIn F n P ops Q rest (a.put o.dst (.tuple #[e.key, e.val])) w) : wpListIn F n P ops Q (o :: rest) a w := by
  refine wpListIn_plain hg fun K' hK' => ?_
  unfold Oper.wpIn
  refine ⟨by simp [Oper.about, hop], ?_⟩
  rw [Oper.semAt_plain F _ _ (by rw [hop]; intro c hc'; cases hc')]
  have hrun := run_entry_at (P := P) w r b since seen es clock e hr hb he hn
  simp [execOp, hop, hit, hrun, Result.andThen]
  exact hK' _ _ hK

end

theorem leftOf_lt {E : Array MapEntry} {S : Array Nat} {x : MapEntry} (hx : InA E x) (hn : ¬ InA S x.born) : (leftOf E (S.push x.born)).size < (leftOf E S).size := by
  have e1 : ∀ A B : Array MapEntry, A.toList.length < B.toList.length → A.size < B.size := fun A B h => by simpa using h
  refine e1 _ _ ?_
  unfold leftOf
  rw [Array.toList_filter, Array.toList_filter]
  have e : (E.toList.filter fun y => !(S.push x.born).contains y.born) = (E.toList.filter fun y => !S.contains y.born).filter fun y => decide (y.born ≠ x.born) := by
    rw [List.filter_filter]
    refine List.filter_congr fun y _ => ?_
    by_cases h1 : y.born = x.born <;> by_cases h2 : y.born ∈ S <;> simp [h1, h2]
  rw [e]
  refine List.length_filter_lt_length_iff_exists.2 ⟨x, List.mem_filter.2 ⟨hx, ?_⟩, by simp⟩
  simpa [InA] using hn

theorem rangeLeft_of {w : World} {b r since clock c0 : Nat} {seen : Array Nat} {es : Array MapEntry} (hr : w.heap[r]? = some (.mapIter (some b) since seen c0)) (hb : w.heap[b]? = some (.map es clock)) : w.rangeLeft b r = (leftOf es seen).size := by
  simp [World.rangeLeft, hr, hb]

end Go.Proofs.YtdpielghjaehbaaGreat.Ev
