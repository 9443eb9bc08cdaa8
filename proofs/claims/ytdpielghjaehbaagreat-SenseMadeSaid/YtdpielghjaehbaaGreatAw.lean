/- What any right program answers: the ends of two small rules. -/
import Derived.Test.YtdpielghjaehbaaGreatSs
import Derived.Test.YtdpielghjaehbaaGreatTexts
set_option linter.unusedSectionVars false
set_option linter.unusedSimpArgs false
set_option linter.unusedVariables false
namespace Go.Proofs.YtdpielghjaehbaaGreat.Ev
open Go.RowKit

/-- Lists in order that hold the same are the same. -/
theorem sorted_ext : ∀ {l m : List Int}, l.Pairwise (· < ·) → m.Pairwise (· < ·) → (∀ x, x ∈ l ↔ x ∈ m) → l = m
  | [], [], _, _, _ => rfl
  | [], y :: m, _, _, h => by have := (h y).2 (List.mem_cons_self ..); cases this
  | x :: l, [], _, _, h => by have := (h x).1 (List.mem_cons_self ..); cases this
  | x :: l, y :: m, hl, hm, h => by
    obtain ⟨h1, h2⟩ := List.pairwise_cons.1 hl
    obtain ⟨h3, h4⟩ := List.pairwise_cons.1 hm
    have hxy : x = y := by
      rcases List.mem_cons.1 ((h x).1 (List.mem_cons_self ..)) with e | e
      · exact e
      · rcases List.mem_cons.1 ((h y).2 (List.mem_cons_self ..)) with e2 | e2
        · exact e2.symm
        · have := h3 x e; have := h1 y e2; omega
    subst hxy
    congr 1
    refine sorted_ext h2 h4 fun z => ⟨fun hz => ?_, fun hz => ?_⟩
    · rcases List.mem_cons.1 ((h z).1 (List.mem_cons_of_mem _ hz)) with e | e
      · subst e; have := h1 z hz; omega
      · exact e
    · rcases List.mem_cons.1 ((h z).2 (List.mem_cons_of_mem _ hz)) with e | e
      · subst e; have := h3 z hz; omega
      · exact e

theorem endsAre_eq {g : List Ru} {s name : List UInt8} {utf : Bool} {l : List Int} (h : EndsAre g s name utf l) (m : List Nat) (hm : m.Pairwise (· < ·)) (hd : ∀ p, Der g s utf name 0 p ↔ p ∈ m) : l = m.map fun (p : Nat) => (p : Int) := by
  refine sorted_ext h.1 ?_ fun x => ?_
  · refine List.Pairwise.map _ ?_ hm
    intro a b hab; omega
  · rw [h.2]
    simp only [List.mem_map]
    exact ⟨fun ⟨p, h1, h2⟩ => ⟨p, (hd p).1 h1, h2.symm⟩, fun ⟨p, h1, h2⟩ => ⟨p, (hd p).2 h1, h2.symm⟩⟩

section
variable {s : List UInt8} {utf : Bool} {M : Kn}

theorem den_alt {text : List UInt8} {nums : List Int} {least most : Int} {kids : List Ex} {a x : Nat} : den s utf M (.mk 1 text nums least most kids) a x ↔ ∃ e ∈ kids, den s utf M e a x := by
  rw [den_mk, if_pos rfl, denAny_iff]
theorem den_seq {text : List UInt8} {nums : List Int} {least most : Int} {kids : List Ex} {a x : Nat} : den s utf M (.mk 2 text nums least most kids) a x ↔ denAll s utf M kids (fun y => y = a) x := by
  rw [den_mk]
  simp only [show ¬ (2 : Int) = 1 by decide, if_false, if_true]
theorem den_rep {text : List UInt8} {nums : List Int} {least most : Int} {e : Ex} {kids : List Ex} {a x : Nat} : den s utf M (.mk 3 text nums least most (e :: kids)) a x ↔ ∃ n : Nat, least ≤ n ∧ (most = -1 ∨ (n : Int) ≤ most) ∧ pow (den s utf M e) n (fun y => y = a) x := by
  rw [den_mk]
  simp only [show ¬ (3 : Int) = 1 by decide, show ¬ (3 : Int) = 2 by decide, if_false, if_true]
  have : denHead s utf M (e :: kids) = den s utf M e := by funext a x; simp only [denHead]
  rw [this]
theorem den_ref {text : List UInt8} {nums : List Int} {least most : Int} {kids : List Ex} {a x : Nat} : den s utf M (.mk 4 text nums least most kids) a x ↔ M text a x := by
  rw [den_mk]
  simp only [show ¬ (4 : Int) = 1 by decide, show ¬ (4 : Int) = 2 by decide, show ¬ (4 : Int) = 3 by decide, if_false, if_true]
theorem den_fold {text : List UInt8} {nums : List Int} {least most : Int} {kids : List Ex} {a x : Nat} : den s utf M (.mk 5 text nums least most kids) a x ↔ (x = a + text.length ∧ x ≤ s.length ∧ alikeB ((s.take x).drop a) text = true) := by
  rw [den_mk]
  simp only [show ¬ (5 : Int) = 1 by decide, show ¬ (5 : Int) = 2 by decide, show ¬ (5 : Int) = 3 by decide, show ¬ (5 : Int) = 4 by decide, if_false, if_true]
theorem den_nums {text : List UInt8} {nums : List Int} {least most : Int} {kids : List Ex} {a x : Nat} : den s utf M (.mk 6 text nums least most kids) a x ↔ ∃ b, textOf utf nums = some b ∧ preB (s.drop a) b = true ∧ x = a + b.length := by
  rw [den_mk]
  simp only [show ¬ (6 : Int) = 1 by decide, show ¬ (6 : Int) = 2 by decide, show ¬ (6 : Int) = 3 by decide, show ¬ (6 : Int) = 4 by decide, show ¬ (6 : Int) = 5 by decide, if_false, if_true]
theorem den_span {text : List UInt8} {nums : List Int} {least most : Int} {kids : List Ex} {a x : Nat} : den s utf M (.mk 7 text nums least most kids) a x ↔ spanOf s utf nums a = some x := by
  rw [den_mk]
  simp only [show ¬ (7 : Int) = 1 by decide, show ¬ (7 : Int) = 2 by decide, show ¬ (7 : Int) = 3 by decide, show ¬ (7 : Int) = 4 by decide, show ¬ (7 : Int) = 5 by decide, show ¬ (7 : Int) = 6 by decide, if_false, if_true]

theorem all_nil {S : Nat → Prop} {x : Nat} : denAll s utf M [] S x ↔ S x := by simp only [denAll]
theorem all_cons {e : Ex} {l : List Ex} {S : Nat → Prop} {x : Nat} : denAll s utf M (e :: l) S x ↔ denAll s utf M l (img (den s utf M e) S) x := by simp only [denAll]
end

theorem ruleA : ruleOf [97] gram_awake = some (.mk 1 [] [] 0 0 [(.mk 5 [120] [] 0 0 []), (.mk 2 [] [] 0 0 [(.mk 4 [97] [] 0 0 []), (.mk 5 [120] [] 0 0 [])])]) := rfl
theorem ruleB : ruleOf [98] gram_awake = some (.mk 1 [] [] 0 0 [(.mk 6 [] [233] 0 0 []), (.mk 7 [] [97, 99] 0 0 [])]) := rfl

/-- 'a' at 'xXy'. -/
theorem awake_a (p : Nat) : Der gram_awake [120, 88, 121] false [97] 0 p ↔ p ∈ [1, 2] := by
  constructor
  · intro h
    have := h (fun nm a x => nm = [97] → a = 0 → x = 1 ∨ x = 2) ?_ rfl rfl
    · simpa using this
    · intro nm e a x hr hd h1 h2
      subst h1; subst h2
      rw [ruleA] at hr
      simp only [Option.some.injEq] at hr
      subst hr
      rw [den_alt] at hd
      obtain ⟨e, he, hd⟩ := hd
      simp only [List.mem_cons, List.not_mem_nil, or_false] at he
      rcases he with rfl | rfl
      · rw [den_fold] at hd
        exact .inl hd.1
      · rw [den_seq, all_cons, all_cons, all_nil] at hd
        obtain ⟨b, ⟨c, rfl, hb⟩, hx⟩ := hd
        rw [den_ref] at hb
        rw [den_fold] at hx
        obtain ⟨h3, h4, h5⟩ := hx
        rcases hb rfl rfl with rfl | rfl
        · exact .inr h3
        · have : x = 3 := h3
          subst this
          revert h5; decide
  · intro h
    have h1 : Der gram_awake [120, 88, 121] false [97] 0 1 := der_closed _ _ _ _ ruleA (den_alt.2 ⟨_, List.mem_cons_self .., den_fold.2 ⟨rfl, by decide, by decide⟩⟩)
    simp only [List.mem_cons, List.not_mem_nil, or_false] at h
    rcases h with rfl | rfl
    · exact h1
    · exact der_closed _ _ _ _ ruleA (den_alt.2 ⟨_, List.mem_cons_of_mem _ (List.mem_cons_self ..), den_seq.2 (all_cons.2 (all_cons.2 (all_nil.2 ⟨1, ⟨0, rfl, den_ref.2 h1⟩, den_fold.2 ⟨rfl, by decide, by decide⟩⟩)))⟩)

theorem textE9 : textOf true [233] = some [195, 169] := by kernel_rfl
theorem textE9f : textOf false [233] = some [233] := by kernel_rfl
theorem spanT : spanOf [195, 169] true [97, 99] 0 = none := by kernel_rfl
theorem spanF : spanOf [195, 169] false [97, 99] 0 = none := by kernel_rfl

theorem awake_b (p : Nat) : Der gram_awake [195, 169] true [98] 0 p ↔ p ∈ [2] := by
  have key : ∀ M x, den [195, 169] true M (.mk 1 [] [] 0 0 [(.mk 6 [] [233] 0 0 []), (.mk 7 [] [97, 99] 0 0 [])]) 0 x ↔ x = 2 := by
    intro M x
    rw [den_alt]
    constructor
    · rintro ⟨e, he, hd⟩
      simp only [List.mem_cons, List.not_mem_nil, or_false] at he
      rcases he with rfl | rfl
      · rw [den_nums, textE9] at hd
        obtain ⟨b, hb, _, rfl⟩ := hd
        simp only [Option.some.injEq] at hb
        subst hb; rfl
      · rw [den_span, spanT] at hd; cases hd
    · rintro rfl
      exact ⟨_, List.mem_cons_self .., den_nums.2 ⟨_, textE9, by decide, rfl⟩⟩
  constructor
  · intro h
    have := h (fun nm a x => nm = [98] → a = 0 → x = 2) ?_ rfl rfl
    · simpa using this
    · intro nm e a x hr hd h1 h2
      subst h1; subst h2
      rw [ruleB] at hr
      simp only [Option.some.injEq] at hr
      subst hr
      exact (key _ _).1 hd
  · intro h
    simp only [List.mem_cons, List.not_mem_nil, or_false] at h
    subst h
    exact der_closed _ _ _ _ ruleB ((key _ _).2 rfl)

theorem awake_c (p : Nat) : Der gram_awake [195, 169] false [98] 0 p ↔ p ∈ ([] : List Nat) := by
  constructor
  · intro h
    have := h (fun nm a x => nm = [98] → a = 0 → False) ?_ rfl rfl
    · exact this.elim
    · intro nm e a x hr hd h1 h2
      subst h1; subst h2
      rw [ruleB] at hr
      simp only [Option.some.injEq] at hr
      subst hr
      rw [den_alt] at hd
      obtain ⟨e, he, hd⟩ := hd
      simp only [List.mem_cons, List.not_mem_nil, or_false] at he
      rcases he with rfl | rfl
      · rw [den_nums, textE9f] at hd
        obtain ⟨b, hb, hp, _⟩ := hd
        simp only [Option.some.injEq] at hb
        subst hb
        revert hp; decide
      · rw [den_span, spanF] at hd; cases hd
  · intro h; cases h

end Go.Proofs.YtdpielghjaehbaaGreat.Ev

/- The ends lie in the text: so they are few. -/
set_option linter.unusedSectionVars false
set_option linter.unusedSimpArgs false
set_option linter.unusedVariables false
namespace Go.Proofs.YtdpielghjaehbaaGreat.Ev
open Go.RowKit

section
variable {s : List UInt8} {utf : Bool}

theorem den_le2 {M : Kn} (h : ∀ nm a x, M nm a x → a ≤ s.length → x ≤ s.length) : ∀ (e : Ex) (a x : Nat), a ≤ s.length → den s utf M e a x → x ≤ s.length := by
  refine exInd ?_
  rintro ⟨kind, text, nums, least, most, kids⟩ ih a x ha
  rw [den_mk]
  simp only [kidsOf] at ih
  split
  · rw [denAny_iff]
    rintro ⟨e, he, hx⟩
    exact ih e he a x ha hx
  split
  · exact denAll_le kids ih (fun a h => by omega) x
  split
  · rintro ⟨n, h1, h2, h3⟩
    refine pow_le ?_ n (fun a h => by omega) x h3
    intro a x ha
    cases kids with
    | nil => simp [denHead]
    | cons e l => simp only [denHead]; exact ih e (List.mem_cons_self ..) a x ha
  split
  · exact fun hm => h text a x hm ha
  split
  · rintro ⟨_, h, _⟩; exact h
  split
  · rintro ⟨b, _, hp, rfl⟩
    have := preB_len hp
    rw [List.length_drop] at this
    omega
  split
  · exact spanOf_le
  exact False.elim

theorem der_le {g : List Ru} {nm : List UInt8} {a x : Nat} (h : Der g s utf nm a x) : a ≤ s.length → x ≤ s.length :=
  h (fun nm a x => a ≤ s.length → x ≤ s.length) fun nm e a x hr hd ha => den_le2 (fun nm a x hm => hm) e a x ha hd
end

theorem sorted_len : ∀ {l : List Int} {a b : Int}, l.Pairwise (· < ·) → (∀ x ∈ l, a ≤ x ∧ x ≤ b) → a ≤ b + 1 → (l.length : Int) ≤ b + 1 - a
  | [], a, b, _, _, h => by simp; omega
  | x :: l, a, b, hl, h, hab => by
    obtain ⟨h1, h2⟩ := List.pairwise_cons.1 hl
    have hx := h x (List.mem_cons_self ..)
    have := sorted_len (a := x + 1) (b := b) h2 (fun y hy => ⟨by have := h1 y hy; omega, (h y (List.mem_cons_of_mem _ hy)).2⟩) (by omega)
    simp only [List.length_cons]
    omega

theorem endsAre_len {g : List Ru} {s nm : List UInt8} {utf : Bool} {l : List Int} (h : EndsAre g s nm utf l) : l.length ≤ s.length + 1 := by
  have := sorted_len (a := 0) (b := (s.length : Int)) h.1 (fun x hx => by
    obtain ⟨p, hp, rfl⟩ := (h.2 x).1 hx
    have := der_le hp (Nat.zero_le _)
    omega) (by omega)
  omega

end Go.Proofs.YtdpielghjaehbaaGreat.Ev
