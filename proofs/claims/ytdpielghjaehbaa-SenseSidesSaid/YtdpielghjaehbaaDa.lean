/- The ends lie in the text: so they are few. -/
import Derived.Test.YtdpielghjaehbaaAw
set_option linter.unusedSectionVars false
set_option linter.unusedSimpArgs false
set_option linter.unusedVariables false
namespace Go.Proofs.Ytdpielghjaehbaa.Ev
open Go.RowKit

section
variable {s : List UInt8} {utf : Bool}

theorem den_le2 {M : Kn} (h : ∀ nm a x, M nm a x → a ≤ s.length → x ≤ s.length) : ∀ (e : Ex) (a x : Nat), a ≤ s.length → den s utf M e a x → x ≤ s.length := by
  refine exInd ?_
  rintro ⟨kind, text, nums, least, most, kids⟩ ih a x ha
  rw [den_mk]
  simp only [kidsOf] at ih
  split
  · rw [denAny_iff]
    rintro ⟨e, he, hx⟩
    exact ih e he a x ha hx
  split
  · exact denAll_le kids ih (fun a h => by omega) x
  split
  · rintro ⟨n, h1, h2, h3⟩
    refine pow_le ?_ n (fun a h => by omega) x h3
    intro a x ha
    cases kids with
    | nil => simp [denHead]
    | cons e l => simp only [denHead]; exact ih e (List.mem_cons_self ..) a x ha
  split
  · exact fun hm => h text a x hm ha
  split
  · rintro ⟨_, h, _⟩; exact h
  split
  · rintro ⟨b, _, hp, rfl⟩
    have := preB_len hp
    rw [List.length_drop] at this
    omega
  split
  · exact spanOf_le
  exact False.elim

theorem der_le {g : List Ru} {nm : List UInt8} {a x : Nat} (h : Der g s utf nm a x) : a ≤ s.length → x ≤ s.length :=
  h (fun nm a x => a ≤ s.length → x ≤ s.length) fun nm e a x hr hd ha => den_le2 (fun nm a x hm => hm) e a x ha hd
end

theorem sorted_len : ∀ {l : List Int} {a b : Int}, l.Pairwise (· < ·) → (∀ x ∈ l, a ≤ x ∧ x ≤ b) → a ≤ b + 1 → (l.length : Int) ≤ b + 1 - a
  | [], a, b, _, _, h => by simp; omega
  | x :: l, a, b, hl, h, hab => by
    obtain ⟨h1, h2⟩ := List.pairwise_cons.1 hl
    have hx := h x (List.mem_cons_self ..)
    have := sorted_len (a := x + 1) (b := b) h2 (fun y hy => ⟨by have := h1 y hy; omega, (h y (List.mem_cons_of_mem _ hy)).2⟩) (by omega)
    simp only [List.length_cons]
    omega

theorem endsAre_len {g : List Ru} {s nm : List UInt8} {utf : Bool} {l : List Int} (h : EndsAre g s nm utf l) : l.length ≤ s.length + 1 := by
  have := sorted_len (a := 0) (b := (s.length : Int)) h.1 (fun x hx => by
    obtain ⟨p, hp, rfl⟩ := (h.2 x).1 hx
    have := der_le hp (Nat.zero_le _)
    omega) (by omega)
  omega

end Go.Proofs.Ytdpielghjaehbaa.Ev
