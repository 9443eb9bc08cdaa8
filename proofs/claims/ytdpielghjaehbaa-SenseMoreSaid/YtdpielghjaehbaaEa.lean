/- regletlaw06.SenseMore: more text behind takes no end away and makes none before. -/
import Derived.Test.YtdpielghjaehbaaAw
set_option linter.unusedSectionVars false
set_option linter.unusedSimpArgs false
set_option linter.unusedVariables false
namespace Go.Proofs.Ytdpielghjaehbaa.Ev
open Go.RowKit

section
variable {s t : List UInt8}

theorem preB_app {u b : List UInt8} (h : b.length ≤ u.length) : preB (u ++ t) b = preB u b := by
  unfold preB
  rw [List.take_append_of_le_length h, decide_eq_true h, decide_eq_true (by rw [List.length_append]; omega)]

theorem at_app {a : Nat} (h : a < s.length) : (s ++ t)[a]? = s[a]? := List.getElem?_append_left h

theorem spanOf_app {nums : List Int} {a x : Nat} (hx : x ≤ s.length) : spanOf (s ++ t) false nums a = some x ↔ spanOf s false nums a = some x := by
  unfold spanOf
  split
  · rename_i lo hi r
    simp only [spanEnd, Bool.false_eq_true, if_false]
    rcases Nat.lt_or_ge a s.length with ha | ha
    · rw [at_app ha]
    · rw [List.getElem?_eq_none ha]
      constructor
      · intro h
        split at h
        · split at h
          · simp only [Option.some.injEq] at h; omega
          · cases h
        · cases h
      · intro h; cases h
  · simp

theorem den_ge_all {S : List UInt8} {M N : Kn} : ∀ (l : List Ex), (∀ e ∈ l, ∀ a x, den S false M e a x → a ≤ x ∧ (x ≤ s.length → den s false N e a x)) → ∀ {a0 : Nat} {A B : Nat → Prop}, (∀ a, A a → a0 ≤ a ∧ (a ≤ s.length → B a)) → ∀ x, denAll S false M l A x → a0 ≤ x ∧ (x ≤ s.length → denAll s false N l B x)
  | [], _, a0, A, B, hA, x, hx => by simp only [denAll] at hx ⊢; exact hA x hx
  | e :: l, h, a0, A, B, hA, x, hx => by
    simp only [denAll] at hx ⊢
    refine den_ge_all l (fun e' he' => h e' (List.mem_cons_of_mem _ he')) (fun y ⟨a, ha, hy⟩ => ?_) x hx
    obtain ⟨h1, h2⟩ := hA a ha
    obtain ⟨h3, h4⟩ := h e (List.mem_cons_self ..) a y hy
    exact ⟨by omega, fun hyl => ⟨a, h2 (by omega), h4 hyl⟩⟩

theorem pow_ge {F G : Nat → Nat → Prop} (h : ∀ a x, F a x → a ≤ x ∧ (x ≤ s.length → G a x)) : ∀ (n : Nat) {a0 : Nat} {A B : Nat → Prop}, (∀ a, A a → a0 ≤ a ∧ (a ≤ s.length → B a)) → ∀ x, pow F n A x → a0 ≤ x ∧ (x ≤ s.length → pow G n B x)
  | 0, a0, A, B, hA, x, hx => hA x hx
  | n + 1, a0, A, B, hA, x, ⟨a, ha, hx⟩ => by
    obtain ⟨h1, h2⟩ := pow_ge h n hA a ha
    obtain ⟨h3, h4⟩ := h a x hx
    exact ⟨by omega, fun hxl => ⟨a, h2 (by omega), h4 hxl⟩⟩

/-- From the longer text to the shorter. -/
theorem den_cut {M N : Kn} (h : ∀ nm a x, M nm a x → a ≤ x ∧ (x ≤ s.length → N nm a x)) : ∀ (e : Ex) (a x : Nat), den (s ++ t) false M e a x → a ≤ x ∧ (x ≤ s.length → den s false N e a x) := by
  refine exInd ?_
  rintro ⟨kind, text, nums, least, most, kids⟩ ih a x
  rw [den_mk, den_mk]
  simp only [kidsOf] at ih
  split
  · rw [denAny_iff, denAny_iff]
    rintro ⟨e, he, hx⟩
    obtain ⟨h1, h2⟩ := ih e he a x hx
    exact ⟨h1, fun hl => ⟨e, he, h2 hl⟩⟩
  split
  · exact den_ge_all kids ih (fun y hy => ⟨by omega, fun _ => hy⟩) x
  split
  · rintro ⟨n, h1, h2, h3⟩
    have := pow_ge (s := s) (F := denHead (s ++ t) false M kids) (G := denHead s false N kids) (by
      intro a x hx
      cases kids with
      | nil => simp [denHead] at hx
      | cons e l => simp only [denHead] at hx ⊢; exact ih e (List.mem_cons_self ..) a x hx) n (a0 := a) (B := fun y => y = a) (fun y hy => ⟨by omega, fun _ => hy⟩) x h3
    exact ⟨this.1, fun hl => ⟨n, h1, h2, this.2 hl⟩⟩
  split
  · exact h text a x
  split
  · rintro ⟨rfl, h1, h2⟩
    refine ⟨by omega, fun hl => ⟨rfl, hl, ?_⟩⟩
    rw [List.take_append_of_le_length hl] at h2
    exact h2
  split
  · rintro ⟨b, h1, h2, rfl⟩
    refine ⟨by omega, fun hl => ⟨b, h1, ?_, rfl⟩⟩
    rw [List.drop_append_of_le_length (by omega), preB_app (by rw [List.length_drop]; omega)] at h2
    exact h2
  split
  · intro hx
    refine ⟨?_, fun hl => (spanOf_app hl).1 hx⟩
    unfold spanOf at hx
    split at hx
    · exact (spanEnd_le hx).2
    · cases hx
  exact False.elim

/-- From the shorter text to the longer. -/
theorem den_grow {M : Kn} : ∀ (e : Ex) (a x : Nat), den s false M e a x → den (s ++ t) false M e a x := by
  refine exInd ?_
  rintro ⟨kind, text, nums, least, most, kids⟩ ih a x
  rw [den_mk, den_mk]
  simp only [kidsOf] at ih
  split
  · rw [denAny_iff, denAny_iff]
    rintro ⟨e, he, hx⟩
    exact ⟨e, he, ih e he a x hx⟩
  split
  · have key : ∀ (l : List Ex), (∀ e ∈ l, ∀ a x, den s false M e a x → den (s ++ t) false M e a x) → ∀ {A B : Nat → Prop}, (∀ a, A a → B a) → ∀ x, denAll s false M l A x → denAll (s ++ t) false M l B x := by
      intro l
      induction l with
      | nil => intro _ A B hA x hx; simp only [denAll] at hx ⊢; exact hA x hx
      | cons e l ihl =>
        intro he A B hA x hx
        simp only [denAll] at hx ⊢
        exact ihl (fun e' he' => he e' (List.mem_cons_of_mem _ he')) (img_mono hA (he e (List.mem_cons_self ..))) x hx
    exact key kids ih (fun a h => h) x
  split
  · rintro ⟨n, h1, h2, h3⟩
    refine ⟨n, h1, h2, pow_mono ?_ n (fun a h => h) x h3⟩
    intro a x
    cases kids with
    | nil => simp [denHead]
    | cons e l => simp only [denHead]; exact ih e (List.mem_cons_self ..) a x
  split
  · exact id
  split
  · rintro ⟨h1, h2, h3⟩
    exact ⟨h1, by rw [List.length_append]; omega, by rw [List.take_append_of_le_length h2]; exact h3⟩
  split
  · rintro ⟨b, h1, h2, h3⟩
    have hl := preB_len h2
    rw [List.length_drop] at hl
    refine ⟨b, h1, ?_, h3⟩
    rcases Nat.le_total a s.length with ha | ha
    · rw [List.drop_append_of_le_length ha, preB_app (by rw [List.length_drop]; omega)]
      exact h2
    · have hb : b = [] := List.length_eq_zero_iff.1 (by omega)
      subst hb
      simp [preB, sameBytes]
  split
  · exact fun hx => (spanOf_app (spanOf_le hx)).2 hx
  exact False.elim

theorem more_ends {g : List Ru} {nm : List UInt8} {p : Nat} (hp : p ≤ s.length) : Der g (s ++ t) false nm 0 p ↔ Der g s false nm 0 p := by
  constructor
  · intro h
    exact (h (fun nm a x => a ≤ x ∧ (x ≤ s.length → Der g s false nm a x)) (fun nm e a x hr hd => by
      obtain ⟨h1, h2⟩ := den_cut (N := Der g s false) (fun nm a x hm => hm) e a x hd
      exact ⟨h1, fun hl => der_closed _ _ _ _ hr (h2 hl)⟩)).2 hp
  · intro h
    exact h (Der g (s ++ t) false) fun nm e a x hr hd => der_closed _ _ _ _ hr (den_grow e a x hd)
end

end Go.Proofs.Ytdpielghjaehbaa.Ev
