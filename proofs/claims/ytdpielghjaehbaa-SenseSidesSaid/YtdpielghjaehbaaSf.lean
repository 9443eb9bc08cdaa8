/- sense: a copy of a set of places. -/
import Derived.Test.YtdpielghjaehbaaSe
import Derived.Laws.Externs
import Derived.Laws.Cover3
import Derived.WalkKit
set_option linter.unusedSectionVars false
set_option linter.unusedSimpArgs false
set_option linter.unusedVariables false
namespace Go.Proofs.Ytdpielghjaehbaa.Ev
open Go.RowKit

variable {mem : Nat → Nat → Option Value} {B0 : Nat}

theorem run_eql_map_nil_here {P : Program} (w : World) (t k e : TypeId) (p : Option Nat) (h : P.underlying t = some (.map k e)) : (binOp .eql t (.map p) (.map none)).run P w = .ok (.bool p.isNone) w := by
  simp only [binOp]
  simp [show Op.equal t (.map p) (.map none) = Op.equalIn (9999 + 1) t (.map p) (.map none) from rfl, run_equalIn_map_nil w 9999 t k e p h]

theorem run_typeAssert_map_here {P : Program} (w : World) (t xT k e : TypeId) (v : Value) (h : P.underlying t = some (.map k e)) : (Instr.typeAssert (.iface t v) xT t false).run P w = .ok v w := by
  simp [Instr.typeAssert, run_underlying h, go_sem, Result.andThen]

theorem run_maps_clone_here {P : Program} (w : World) {r : Nat} {es : Array MapEntry} {clock : Nat} (t : TypeId) (hb : w.heap[r]? = some (.map es clock)) :
    (Extern.MapsClone.clone #[.iface t (.map (some r))]).run P w = .ok (.iface t (.map (some w.heap.size))) (w.alloc (.map es clock)) := by
  have e : Extern.MapsClone.clone #[.iface t (.map (some r))] = (getObj r >>= fun o => match o with
      | .map entries clock => (newObj (.map entries clock) >>= fun n => pure (.iface t (.map (some n))))
      | _ => stuck "maps.clone: a map expected") := rfl
  rw [e]
  simp [MapKept.run_getObj_map hb, Result.andThen, go_sem]

set_option maxHeartbeats 2000000 in
set_option maxRecDepth 100000 in
theorem clone_calls (b : Nat) (es : Array MapEntry) (clock : Nat) (w : World) (hb : w.heap[b]? = some (.map es clock)) :
    Calls Try.prog 66 #[.map (some b)] w fun e w' => e = .returned (.map (some w.heap.size)) ∧ w' = w.alloc (.map es clock) := by
  have hq := fun w => run_eql_map_nil_here (P := Try.prog) w 55 _ _ (some b) Try.underlying55
  go_enter Try.func66, Try.ntmps66
  go_wp2
  rw [run_callFunc_extern Try.func83 (by kernel_rfl) (by kernel_rfl) (by kernel_rfl) (e := Extern.MapsClone.clone) (by kernel_rfl), run_maps_clone_here w 55 hb]
  simp only [Result.andThen]
  rw [Oper.upon_value]
  go_wp2
  rw [run_typeAssert_map_here _ 55 20 _ _ _ Try.underlying55]
  simp only [Result.andThen]
  rw [Oper.upon_value]
  go_wp2
  go_ret
  exact ⟨rfl, rfl⟩

theorem clone_ok {d : Seg} {n j c : Nat} {ks : List (Int × Nat)} (hj : get [d] j = some (.pm ks c)) :
    CallsA Try.prog (senv mem) B0 66 [.c (.mref j)] d n fun v d' n' => v = .c (.mref n) ∧ d' = (n, some (.pm ks c)) :: d ∧ n' = n + 1 := by
  intro al ρ w hr hargs
  refine ⟨⟨_, Try.func66, rfl, by decide⟩, ?_⟩
  have hb := hr.pm hj
  refine (clone_calls (ρ j).1 _ c w hb).mono fun e w' ⟨he, hw⟩ => ?_
  subst hw
  have hst := step_new (w1 := w) hr (.pm ks c) trivial (.map (ks.map pmEntry).toArray c) 0 rfl ⟨rfl, rfl, rfl, rfl⟩
  exact ⟨_, _, _, _, _, _, ⟨rfl, rfl, rfl⟩, rfl, hst, .inr rfl, by rw [he]; simp [concV, conc]⟩

end Go.Proofs.Ytdpielghjaehbaa.Ev
