/- regletlaw06.SenseSides: four rules that derive the same. -/
import Derived.Test.YtdpielghjaehbaaAw
set_option linter.unusedSectionVars false
set_option linter.unusedSimpArgs false
set_option linter.unusedVariables false
namespace Go.Proofs.Ytdpielghjaehbaa.Ev
open Go.RowKit

/-- n + 1 steps of X. -/
def IterX (X : Nat → Nat → Prop) : Nat → Nat → Nat → Prop
  | 0, a, x => X a x
  | n + 1, a, x => ∃ y, X a y ∧ IterX X n y x

def Tc (X : Nat → Nat → Prop) (a x : Nat) : Prop := ∃ n, IterX X n a x

section
variable {X : Nat → Nat → Prop}

theorem iter_tail : ∀ {n a y x : Nat}, IterX X n a y → X y x → IterX X (n + 1) a x
  | 0, a, y, x, h, hx => ⟨y, h, hx⟩
  | n + 1, a, y, x, ⟨z, h1, h2⟩, hx => ⟨z, h1, iter_tail h2 hx⟩

theorem iter_last : ∀ {n a x : Nat}, IterX X (n + 1) a x → ∃ y, IterX X n a y ∧ X y x
  | 0, a, x, ⟨y, h1, h2⟩ => ⟨y, h1, h2⟩
  | n + 1, a, x, ⟨y, h1, h2⟩ => by
    obtain ⟨z, h3, h4⟩ := iter_last h2
    exact ⟨z, ⟨y, h1, h3⟩, h4⟩

theorem tc_join : ∀ {n a y x : Nat}, IterX X n a y → Tc X y x → Tc X a x
  | 0, a, y, x, h, ⟨m, hx⟩ => ⟨m + 1, y, h, hx⟩
  | n + 1, a, y, x, ⟨z, h1, h2⟩, hx => by
    obtain ⟨m, hm⟩ := tc_join h2 hx
    exact ⟨m + 1, z, h1, hm⟩
end

section
variable {g : List Ru} {s : List UInt8} {utf : Bool}

/-- What one rule derives lies in T, if its own expression keeps T. -/
theorem der_pred {name : List UInt8} {T : Nat → Nat → Prop} (h : ∀ e a x, ruleOf name g = some e → den s utf (fun nm a x => Der g s utf nm a x ∧ (nm = name → T a x)) e a x → T a x) {a x : Nat} (hd : Der g s utf name a x) : T a x := by
  refine (hd (fun nm a x => Der g s utf nm a x ∧ (nm = name → T a x)) ?_).2 rfl
  intro nm e a x hr hden
  refine ⟨der_step (fun nm a x hm => hm.1) hr hden, fun hn => ?_⟩
  subst hn
  exact h e a x hr hden

theorem den_two {M : Kn} {p q : List UInt8} {a x : Nat} : den s utf M (.mk 2 [] [] 0 0 [.mk 4 p [] 0 0 [], .mk 4 q [] 0 0 []]) a x ↔ ∃ y, M p a y ∧ M q y x := by
  rw [den_seq, all_cons, all_cons, all_nil]
  constructor
  · rintro ⟨y, ⟨a', rfl, h1⟩, h2⟩
    exact ⟨y, den_ref.1 h1, den_ref.1 h2⟩
  · rintro ⟨y, h1, h2⟩
    exact ⟨y, ⟨a, rfl, den_ref.2 h1⟩, den_ref.2 h2⟩

theorem den_alt2 {M : Kn} {e f : Ex} {a x : Nat} : den s utf M (.mk 1 [] [] 0 0 [e, f]) a x ↔ (den s utf M e a x ∨ den s utf M f a x) := by
  rw [den_alt]
  constructor
  · rintro ⟨k, hk, hd⟩
    simp only [List.mem_cons, List.not_mem_nil, or_false] at hk
    rcases hk with rfl | rfl
    · exact .inl hd
    · exact .inr hd
  · rintro (h | h)
    · exact ⟨e, List.mem_cons_self .., h⟩
    · exact ⟨f, List.mem_cons_of_mem _ (List.mem_cons_self ..), h⟩
end

section
variable {s : List UInt8} {utf : Bool}

theorem side_a {a p : Nat} : Der gram_sides s utf [97] a p ↔ Tc (Der gram_sides s utf [120]) a p := by
  have hr : ruleOf [97] gram_sides = some (.mk 1 [] [] 0 0 [(.mk 4 [120] [] 0 0 []), (.mk 2 [] [] 0 0 [(.mk 4 [97] [] 0 0 []), (.mk 4 [120] [] 0 0 [])])]) := rfl
  constructor
  · refine der_pred (T := Tc (Der gram_sides s utf [120])) fun e a x he hd => ?_
    rw [hr] at he
    simp only [Option.some.injEq] at he
    subst he
    rw [den_alt2, den_ref, den_two] at hd
    rcases hd with ⟨h, _⟩ | ⟨y, ⟨_, h1⟩, h2, _⟩
    · exact ⟨0, h⟩
    · obtain ⟨n, hn⟩ := h1 rfl
      exact ⟨n + 1, iter_tail hn h2⟩
  · rintro ⟨n, hn⟩
    induction n generalizing p with
    | zero => exact der_closed _ _ _ _ hr (den_alt2.2 (.inl (den_ref.2 hn)))
    | succ n ih =>
      obtain ⟨y, h1, h2⟩ := iter_last hn
      exact der_closed _ _ _ _ hr (den_alt2.2 (.inr (den_two.2 ⟨y, ih h1, h2⟩)))

theorem side_b {a p : Nat} : Der gram_sides s utf [98] a p ↔ Tc (Der gram_sides s utf [120]) a p := by
  have hr : ruleOf [98] gram_sides = some (.mk 1 [] [] 0 0 [(.mk 4 [120] [] 0 0 []), (.mk 2 [] [] 0 0 [(.mk 4 [120] [] 0 0 []), (.mk 4 [98] [] 0 0 [])])]) := rfl
  constructor
  · refine der_pred (T := Tc (Der gram_sides s utf [120])) fun e a x he hd => ?_
    rw [hr] at he
    simp only [Option.some.injEq] at he
    subst he
    rw [den_alt2, den_ref, den_two] at hd
    rcases hd with ⟨h, _⟩ | ⟨y, ⟨h1, _⟩, _, h2⟩
    · exact ⟨0, h⟩
    · obtain ⟨n, hn⟩ := h2 rfl
      exact ⟨n + 1, y, h1, hn⟩
  · rintro ⟨n, hn⟩
    induction n generalizing a with
    | zero => exact der_closed _ _ _ _ hr (den_alt2.2 (.inl (den_ref.2 hn)))
    | succ n ih =>
      obtain ⟨y, h1, h2⟩ := hn
      exact der_closed _ _ _ _ hr (den_alt2.2 (.inr (den_two.2 ⟨y, h1, ih h2⟩)))

theorem pow_iter {X : Nat → Nat → Prop} : ∀ {n a p : Nat}, pow X (n + 1) (fun y => y = a) p ↔ IterX X n a p
  | 0, a, p => by
    constructor
    · rintro ⟨y, hy, h⟩
      subst hy; exact h
    · intro h
      exact ⟨a, rfl, h⟩
  | n + 1, a, p => by
    constructor
    · rintro ⟨y, hy, h⟩
      exact iter_tail (pow_iter.1 hy) h
    · intro h
      obtain ⟨y, h1, h2⟩ := iter_last h
      exact ⟨y, pow_iter.2 h1, h2⟩

theorem side_c {a p : Nat} : Der gram_sides s utf [99] a p ↔ Tc (Der gram_sides s utf [120]) a p := by
  have hr : ruleOf [99] gram_sides = some (.mk 3 [] [] 1 (-1) [(.mk 4 [120] [] 0 0 [])]) := rfl
  have hden : ∀ M : Kn, den s utf M (.mk 4 [120] [] 0 0 []) = M [120] := fun M => by funext a x; exact propext den_ref
  constructor
  · refine der_pred (T := Tc (Der gram_sides s utf [120])) fun e a x he hd => ?_
    rw [hr] at he
    simp only [Option.some.injEq] at he
    subst he
    rw [den_rep, hden] at hd
    obtain ⟨n, h1, h1', h2⟩ := hd
    cases n with
    | zero => omega
    | succ n =>
      have h3 := pow_iter.1 h2
      clear h2 h1 h1'
      refine ⟨n, ?_⟩
      induction n generalizing a with
      | zero => exact h3.1
      | succ n ih =>
        obtain ⟨y, h4, h5⟩ := h3
        exact ⟨y, h4.1, ih y h5⟩
  · rintro ⟨n, hn⟩
    exact der_closed _ _ _ _ hr (den_rep.2 ⟨n + 1, by omega, .inl rfl, by rw [hden]; exact pow_iter.2 hn⟩)

theorem side_d {a p : Nat} : Der gram_sides s utf [100] a p ↔ Tc (Der gram_sides s utf [120]) a p := by
  have hr : ruleOf [100] gram_sides = some (.mk 1 [] [] 0 0 [(.mk 2 [] [] 0 0 [(.mk 4 [100] [] 0 0 []), (.mk 4 [100] [] 0 0 [])]), (.mk 4 [120] [] 0 0 [])]) := rfl
  constructor
  · refine der_pred (T := Tc (Der gram_sides s utf [120])) fun e a x he hd => ?_
    rw [hr] at he
    simp only [Option.some.injEq] at he
    subst he
    rw [den_alt2, den_two, den_ref] at hd
    rcases hd with ⟨y, ⟨_, h1⟩, _, h2⟩ | ⟨h, _⟩
    · obtain ⟨n, hn⟩ := h1 rfl
      exact tc_join hn (h2 rfl)
    · exact ⟨0, h⟩
  · rintro ⟨n, hn⟩
    induction n generalizing a with
    | zero => exact der_closed _ _ _ _ hr (den_alt2.2 (.inr (den_ref.2 hn)))
    | succ n ih =>
      obtain ⟨y, h1, h2⟩ := hn
      exact der_closed _ _ _ _ hr (den_alt2.2 (.inl (den_two.2 ⟨y, der_closed _ _ _ _ hr (den_alt2.2 (.inr (den_ref.2 h1))), ih h2⟩)))
end

/-- Two rules that derive the same have the same ends. -/
theorem endsAre_same {g : List Ru} {s n1 n2 : List UInt8} {utf : Bool} {l1 l2 : List Int} (h1 : EndsAre g s n1 utf l1) (h2 : EndsAre g s n2 utf l2) (h : ∀ p, Der g s utf n1 0 p ↔ Der g s utf n2 0 p) : l1 = l2 := by
  refine sorted_ext h1.1 h2.1 fun x => ?_
  rw [h1.2, h2.2]
  exact ⟨fun ⟨p, hp, e⟩ => ⟨p, (h p).1 hp, e⟩, fun ⟨p, hp, e⟩ => ⟨p, (h p).2 hp, e⟩⟩

end Go.Proofs.Ytdpielghjaehbaa.Ev
