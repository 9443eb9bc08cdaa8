/- sense: contracts over the model's worlds. -/
import Derived.Test.YtdpielghjaehbaaSr
set_option linter.unusedSectionVars false
set_option linter.unusedSimpArgs false
set_option linter.unusedVariables false
namespace Go.Proofs.Ytdpielghjaehbaa.Ev
open Go.RowKit

theorem memOf_ok {w : World} {b o : Nat} {v : Value} (h : memOf w b o = some v) : b < w.heap.size ∧ w.cell? ⟨b, o, none⟩ = some v := by
  refine ⟨?_, h⟩
  rcases Nat.lt_or_ge b w.heap.size with hb | hb
  · exact hb
  · unfold memOf World.cell? at h
    simp only [Array.getElem?_eq_none hb] at h
    cases h

theorem rep_empty {E : Env} {w : World} (hm : ∀ b o v, E.mem b o = some v → b < w.heap.size ∧ w.cell? ⟨b, o, none⟩ = some v) : Rep E w.heap.size ⟨[[]], fun _ => False, 0, fun _ => (0, 0), w⟩ where
  obj i o ho := by simp [get, look] at ho
  lo i o ho := by simp [get, look] at ho
  inj i j o p ho hp := by simp [get, look] at ho
  al i o ho := by simp [get, look] at ho
  lt i hi := hi.elim
  base := Nat.le_refl _
  mem := hm

theorem step_empty_below {E : Env} {w w' : World} {B0 : Nat} {δ : Seg} {H : List Seg} {al' : Nat → Prop} {n' : Nat} {ρ' : Rho} (h : Step E B0 (In δ) ⟨[[]], fun _ => False, 0, fun _ => (0, 0), w⟩ ⟨H, al', n', ρ', w'⟩) : Below w.heap.size w w' :=
  ⟨h.misc.1, h.misc.2.1, h.misc.2.2, h.size, fun k hk => h.frame k hk fun i _ hi => by simp only at hi; omega⟩

/-- A contract over abstract heaps, in a world. -/
theorem calls_of_abs {P : Program} {E : Env} {f : Nat} {args : List AV} {w : World} {R : AV → Seg → Nat → Prop} (hm : ∀ b o v, E.mem b o = some v → b < w.heap.size ∧ w.cell? ⟨b, o, none⟩ = some v) (hargs : ∀ x ∈ args, x.ok (fun _ => False))
    (h : CallsA P E w.heap.size f args [] 0 R) : Calls P f (args.map (concV fun _ => (0, 0))).toArray w fun e w' => ∃ v d n al ρ, R v d n ∧ Rep E w.heap.size ⟨[d], al, n, ρ, w'⟩ ∧ Below w.heap.size w w' ∧ v.ok al ∧ e = .returned (concV ρ v) := by
  obtain ⟨_, hc⟩ := h _ _ w (rep_empty hm) hargs
  refine hc.mono fun e w' ⟨v, d', n', δ, ρ', al', hR, hd, hst, hok, he⟩ => ⟨v, d', n', al', ρ', hR, hst.rep, step_empty_below hst, hok, he⟩

theorem intRow_at {E : Env} {B0 : Nat} {d : Seg} {al : Nat → Prop} {n m : Nat} {ρ : Rho} {w : World} (h : Rep E B0 ⟨[d], al, n, ρ, w⟩) {v : AV} {l : List Int} (hv : IntRow d m v l) : IntsAt w w.heap.size (concV ρ v) l := by
  rcases hv with ⟨rfl, rfl⟩ | ⟨hne, j, _, rfl, hj⟩
  · exact .inl ⟨rfl, rfl⟩
  · refine .inr ⟨(ρ j).1, (ρ j).2, h.below hj, rfl, fun i x hi => ?_⟩
    have := h.cell hj (k := i) (x := .int .i64 x) (by simp [intsC, hi])
    exact this

theorem lift_conc (v : Value) : concV (fun _ => (0, 0)) (.c (lift v)) = v := conc_lift _ v

/-- The ends of a rule: what it derives, in order. -/
def EndsAre (g : List Ru) (s name : List UInt8) (utf : Bool) (l : List Int) : Prop := l.Pairwise (· < ·) ∧ ∀ x, x ∈ l ↔ ∃ p : Nat, Der g s utf name 0 p ∧ x = p

theorem ends_calls {w : World} {v0 : Value} {g : List Ru} {name s : List UInt8} {utf : Bool} {NM : List (List UInt8)} (hv : RulesAt w w.heap.size v0 g) (hg : g.length < 4611686018427387904) (hwf : ∀ r ∈ g, wfEx NM r.ex = true) (hname : name ∈ NM) (hs0 : s.length < 1000000000) (hbig : NM.length * (s.length + 1) ≤ 1000000000000) :
    Calls Try.prog 14 #[v0, .string ⟨name.toArray⟩, .string ⟨s.toArray⟩, .bool utf] w fun e w' => ∃ v l, e = .returned v ∧ EndsAre g s name utf l ∧ IntsAt w' w'.heap.size v l ∧ Below w.heap.size w w' := by
  have h := calls_of_abs (E := senv (memOf w)) (w := w) (fun b o v hv => memOf_ok hv) (by
    intro x hx
    simp only [List.mem_cons, List.not_mem_nil, or_false] at hx
    rcases hx with rfl | rfl | rfl | rfl
    · exact ok_lift _ v0
    · trivial
    · trivial
    · trivial) (ends_abs (B0 := w.heap.size) (d := []) (n := 0) (utf := utf) hv hg hwf hname hs0 hbig)
  have e : (List.map (concV fun _ => (0, 0)) [AV.c (lift v0), AV.c (AC.str name), AV.c (AC.str s), AV.c (AC.bool utf)]).toArray = #[v0, .string ⟨name.toArray⟩, .string ⟨s.toArray⟩, .bool utf] := by
    simp only [List.map_cons, List.map_nil, lift_conc]
    rfl
  rw [e] at h
  refine h.mono ?_
  rintro e w' ⟨v, d, n, al, ρ, ⟨l, h1, h2, h3⟩, hrep, hb, hok, rfl⟩
  exact ⟨_, l, rfl, ⟨h1, h2⟩, intRow_at hrep h3, hb⟩

end Go.Proofs.Ytdpielghjaehbaa.Ev
