/- sense: what expressions derive, as far as is known: plain. -/
import Derived.Test.YtdpielghjaehbaaGreatSg
import Derived.Test.YtdpielghjaehbaaGreatSh
set_option linter.unusedSectionVars false
set_option linter.unusedSimpArgs false
set_option linter.unusedVariables false
namespace Go.Proofs.YtdpielghjaehbaaGreat.Ev

/-- What is known: of each rule and place the ends. -/
abbrev Kn := List UInt8 → Nat → Nat → Prop

def img (F : Nat → Nat → Prop) (S : Nat → Prop) (x : Nat) : Prop := ∃ a, S a ∧ F a x

def pow (F : Nat → Nat → Prop) : Nat → (Nat → Prop) → Nat → Prop
  | 0, S => S
  | n + 1, S => img F (pow F n S)

def spanOf (s : List UInt8) (utf : Bool) : List Int → Nat → Option Nat
  | lo :: hi :: _, a => spanEnd s utf lo hi a
  | _, _ => none

section
variable (s : List UInt8) (utf : Bool)

mutual
/-- The ends of an expression from a place. -/
def den (M : Kn) : Ex → Nat → Nat → Prop
  | .mk kind text nums least most kids, a, x =>
    if kind = 1 then denAny M kids a x
    else if kind = 2 then denAll M kids (fun y => y = a) x
    else if kind = 3 then ∃ n : Nat, least ≤ n ∧ (most = -1 ∨ (n : Int) ≤ most) ∧ pow (denHead M kids) n (fun y => y = a) x
    else if kind = 4 then M text a x
    else if kind = 5 then x = a + text.length ∧ x ≤ s.length ∧ alikeB ((s.take x).drop a) text = true
    else if kind = 6 then ∃ b, textOf utf nums = some b ∧ preB (s.drop a) b = true ∧ x = a + b.length
    else if kind = 7 then spanOf s utf nums a = some x
    else False
def denAny (M : Kn) : List Ex → Nat → Nat → Prop
  | [], _, _ => False
  | e :: es, a, x => den M e a x ∨ denAny M es a x
def denAll (M : Kn) : List Ex → (Nat → Prop) → Nat → Prop
  | [], S, x => S x
  | e :: es, S, x => denAll M es (img (den M e) S) x
def denHead (M : Kn) : List Ex → Nat → Nat → Prop
  | [], _, _ => False
  | e :: _, a, x => den M e a x
end
end

mutual
/-- Is an expression one that the program takes? -/
def wfEx (NM : List (List UInt8)) : Ex → Bool
  | .mk kind text nums least most kids => (kind != 3 || (kids.length != 0 && decide (0 ≤ least) && (most == -1 || decide (least ≤ most)))) && (kind != 4 || NM.contains text) && (kind != 7 || decide (2 ≤ nums.length)) &&
    decide (nums.length ≤ 20000) && decide (text.length < 1152921504606846976) && decide (kids.length < 1152921504606846976) && decide (least < 1152921504606846976) && decide (most < 1152921504606846976) && wfAll NM kids
def wfAll (NM : List (List UInt8)) : List Ex → Bool
  | [] => true
  | e :: es => wfEx NM e && wfAll NM es
end

theorem wfAll_mem {NM : List (List UInt8)} : ∀ {l : List Ex}, wfAll NM l = true → ∀ e ∈ l, wfEx NM e = true
  | [], _, e, he => by cases he
  | x :: l, h, e, he => by
    simp only [wfAll, Bool.and_eq_true] at h
    rcases List.mem_cons.1 he with rfl | he
    · exact h.1
    · exact wfAll_mem h.2 e he

def kidsOf : Ex → List Ex
  | .mk _ _ _ _ _ kids => kids

theorem exInd {C : Ex → Prop} (h : ∀ e, (∀ k ∈ kidsOf e, C k) → C e) : ∀ e, C e := by
  intro e
  refine Ex.rec (motive_1 := C) (motive_2 := fun l => ∀ k ∈ l, C k) ?_ ?_ ?_ e
  · intro kind text nums least most kids ih
    exact h _ ih
  · intro k hk; cases hk
  · intro x l hx hl k hk
    rcases List.mem_cons.1 hk with rfl | hk
    · exact hx
    · exact hl k hk

section
variable {s : List UInt8} {utf : Bool}

theorem img_congr {F G : Nat → Nat → Prop} {S T : Nat → Prop} (hS : ∀ a, S a ↔ T a) (h : ∀ a, S a → ∀ x, F a x ↔ G a x) : ∀ x, img F S x ↔ img G T x := fun x =>
  ⟨fun ⟨a, ha, hx⟩ => ⟨a, (hS a).1 ha, (h a ha x).1 hx⟩, fun ⟨a, ha, hx⟩ => ⟨a, (hS a).2 ha, (h a ((hS a).2 ha) x).2 hx⟩⟩

theorem img_mono {F G : Nat → Nat → Prop} {S T : Nat → Prop} (hS : ∀ a, S a → T a) (h : ∀ a x, F a x → G a x) : ∀ x, img F S x → img G T x := fun x ⟨a, ha, hx⟩ => ⟨a, hS a ha, h a x hx⟩

theorem pow_mono {F G : Nat → Nat → Prop} (h : ∀ a x, F a x → G a x) : ∀ (n : Nat) {S T : Nat → Prop}, (∀ a, S a → T a) → ∀ x, pow F n S x → pow G n T x
  | 0, S, T, hS, x, hx => hS x hx
  | n + 1, S, T, hS, x, hx => img_mono (pow_mono h n hS) h x hx

theorem den_mk (M : Kn) (kind : Int) (text : List UInt8) (nums : List Int) (least most : Int) (kids : List Ex) (a x : Nat) : den s utf M (.mk kind text nums least most kids) a x =
    if kind = 1 then denAny s utf M kids a x
    else if kind = 2 then denAll s utf M kids (fun y => y = a) x
    else if kind = 3 then ∃ n : Nat, least ≤ n ∧ (most = -1 ∨ (n : Int) ≤ most) ∧ pow (denHead s utf M kids) n (fun y => y = a) x
    else if kind = 4 then M text a x
    else if kind = 5 then x = a + text.length ∧ x ≤ s.length ∧ alikeB ((s.take x).drop a) text = true
    else if kind = 6 then ∃ b, textOf utf nums = some b ∧ preB (s.drop a) b = true ∧ x = a + b.length
    else if kind = 7 then spanOf s utf nums a = some x
    else False := by rw [den]

theorem denAny_iff (M : Kn) : ∀ (l : List Ex) (a x : Nat), denAny s utf M l a x ↔ ∃ e ∈ l, den s utf M e a x
  | [], a, x => by simp [denAny]
  | e :: l, a, x => by simp [denAny, denAny_iff M l a x]

theorem denAll_mono {M M' : Kn} : ∀ (l : List Ex), (∀ e ∈ l, ∀ a x, den s utf M e a x → den s utf M' e a x) → ∀ {S T : Nat → Prop}, (∀ a, S a → T a) → ∀ x, denAll s utf M l S x → denAll s utf M' l T x
  | [], _, S, T, hS, x, hx => by simp only [denAll] at hx ⊢; exact hS x hx
  | e :: l, h, S, T, hS, x, hx => by
    simp only [denAll] at hx ⊢
    exact denAll_mono l (fun e' he' => h e' (List.mem_cons_of_mem _ he')) (img_mono hS (h e (List.mem_cons_self ..))) x hx

/-- More known: more ends. -/
theorem den_mono {M M' : Kn} (h : ∀ nm a x, M nm a x → M' nm a x) : ∀ (e : Ex) (a x : Nat), den s utf M e a x → den s utf M' e a x := by
  intro e
  induction e using exInd with
  | h e ih =>
    obtain ⟨kind, text, nums, least, most, kids⟩ := e
    intro a x hx
    rw [den_mk] at hx ⊢
    simp only [kidsOf] at ih
    by_cases h1 : kind = 1
    · rw [if_pos h1] at hx ⊢
      rw [denAny_iff] at hx ⊢
      obtain ⟨e, he, hx⟩ := hx
      exact ⟨e, he, ih e he a x hx⟩
    rw [if_neg h1] at hx ⊢
    by_cases h2 : kind = 2
    · rw [if_pos h2] at hx ⊢
      exact denAll_mono kids ih (fun a h => h) x hx
    rw [if_neg h2] at hx ⊢
    by_cases h3 : kind = 3
    · rw [if_pos h3] at hx ⊢
      obtain ⟨n, k1, k2, k3⟩ := hx
      refine ⟨n, k1, k2, pow_mono ?_ n (fun a h => h) x k3⟩
      intro a x
      cases kids with
      | nil => simp [denHead]
      | cons e l => simp only [denHead]; exact ih e (List.mem_cons_self ..) a x
    rw [if_neg h3] at hx ⊢
    by_cases h4 : kind = 4
    · rw [if_pos h4] at hx ⊢
      exact h text a x hx
    rw [if_neg h4] at hx ⊢
    exact hx

theorem preB_len {x y : List UInt8} (h : preB x y = true) : y.length ≤ x.length := by
  simp only [preB, Bool.and_eq_true, decide_eq_true_eq] at h; exact h.1

theorem endIf_le {o : Option (List UInt8)} {rest : List UInt8} {c lo hi : Int} {a x : Nat} (h : endIf o rest c lo hi a = some x) : x ≤ a + rest.length ∧ a ≤ x := by
  cases o with
  | none => cases h
  | some b =>
    simp only [endIf] at h
    by_cases hc : c ≥ lo ∧ c ≤ hi ∧ preB rest b = true
    · rw [if_pos hc] at h
      have := preB_len hc.2.2
      simp only [Option.some.injEq] at h
      omega
    · rw [if_neg hc] at h; cases h

theorem spanEnd_le {lo hi : Int} {a x : Nat} (h : spanEnd s utf lo hi a = some x) : x ≤ s.length ∧ a ≤ x := by
  cases utf with
  | true =>
    simp only [spanEnd, if_true] at h
    by_cases ha : a < s.length
    · rw [if_pos ha] at h
      generalize textOf true [firstRune (s.drop a)] = o at h
      have := endIf_le h
      rw [List.length_drop] at this
      omega
    · rw [if_neg ha] at h; cases h
  | false =>
    simp only [spanEnd, Bool.false_eq_true, if_false] at h
    cases hb : s[a]? with
    | none => rw [hb] at h; cases h
    | some b =>
      rw [hb] at h
      obtain ⟨hlt, _⟩ := List.getElem?_eq_some_iff.1 hb
      simp only at h
      by_cases hc : (b.toNat : Int) ≥ lo ∧ (b.toNat : Int) ≤ hi
      · rw [if_pos hc] at h
        simp only [Option.some.injEq] at h
        omega
      · rw [if_neg hc] at h; cases h

theorem spanOf_le {nums : List Int} {a x : Nat} (h : spanOf s utf nums a = some x) : x ≤ s.length := by
  unfold spanOf at h
  split at h
  · exact (spanEnd_le h).1
  · cases h

theorem denAll_le {M : Kn} : ∀ (l : List Ex), (∀ e ∈ l, ∀ a x, a ≤ s.length → den s utf M e a x → x ≤ s.length) → ∀ {S : Nat → Prop}, (∀ a, S a → a ≤ s.length) → ∀ x, denAll s utf M l S x → x ≤ s.length
  | [], _, S, hS, x, hx => by simp only [denAll] at hx; exact hS x hx
  | e :: l, h, S, hS, x, hx => by
    simp only [denAll] at hx
    exact denAll_le l (fun e' he' => h e' (List.mem_cons_of_mem _ he')) (fun y ⟨a, ha, hy⟩ => h e (List.mem_cons_self ..) a y (hS a ha) hy) x hx

theorem pow_le {F : Nat → Nat → Prop} {L : Nat} (h : ∀ a x, a ≤ L → F a x → x ≤ L) : ∀ (n : Nat) {S : Nat → Prop}, (∀ a, S a → a ≤ L) → ∀ x, pow F n S x → x ≤ L
  | 0, S, hS, x, hx => hS x hx
  | n + 1, S, hS, x, ⟨a, ha, hx⟩ => h a x (pow_le h n hS a ha) hx

/-- Ends lie in the text. -/
theorem den_le {M : Kn} (h : ∀ nm a x, M nm a x → x ≤ s.length) : ∀ (e : Ex) (a x : Nat), a ≤ s.length → den s utf M e a x → x ≤ s.length := by
  refine exInd ?_
  rintro ⟨kind, text, nums, least, most, kids⟩ ih a x ha
  rw [den_mk]
  simp only [kidsOf] at ih
  split
  · rw [denAny_iff]
    rintro ⟨e, he, hx⟩
    exact ih e he a x ha hx
  split
  · exact denAll_le kids ih (fun a h => by omega) x
  split
  · rintro ⟨n, h1, h2, h3⟩
    refine pow_le ?_ n (fun a h => by omega) x h3
    intro a x ha
    cases kids with
    | nil => simp [denHead]
    | cons e l => simp only [denHead]; exact ih e (List.mem_cons_self ..) a x ha
  split
  · exact h text a x
  split
  · rintro ⟨_, h, _⟩; exact h
  split
  · rintro ⟨b, _, hp, rfl⟩
    have := preB_len hp
    rw [List.length_drop] at this
    omega
  split
  · exact spanOf_le
  exact False.elim

/-- What an expression derives from a place hangs on these rules and places alone. -/
def Cov (s : List UInt8) (utf : Bool) (dom : List UInt8 → Nat → Prop) (M : Kn) (e : Ex) (a : Nat) : Prop :=
  ∀ M' : Kn, (∀ nm b x, dom nm b → (M' nm b x ↔ M nm b x)) → ∀ x, den s utf M' e a x ↔ den s utf M e a x

theorem Cov.mono {dom dom' : List UInt8 → Nat → Prop} {M : Kn} {e : Ex} {a : Nat} (h : Cov s utf dom M e a) (hd : ∀ nm b, dom nm b → dom' nm b) : Cov s utf dom' M e a :=
  fun M' hM => h M' fun nm b x hn => hM nm b x (hd nm b hn)

theorem cov_any {dom : List UInt8 → Nat → Prop} {M : Kn} {text : List UInt8} {nums : List Int} {least most : Int} {kids : List Ex} {a : Nat} (h : ∀ e ∈ kids, Cov s utf dom M e a) : Cov s utf dom M (.mk 1 text nums least most kids) a := by
  intro M' hM x
  rw [den_mk, den_mk]
  simp only [if_true]
  rw [denAny_iff, denAny_iff]
  exact ⟨fun ⟨e, he, hx⟩ => ⟨e, he, (h e he M' hM x).1 hx⟩, fun ⟨e, he, hx⟩ => ⟨e, he, (h e he M' hM x).2 hx⟩⟩

/-- The same of a row of expressions, one behind the other. -/
def CovAll (s : List UInt8) (utf : Bool) (dom : List UInt8 → Nat → Prop) (M : Kn) : List Ex → (Nat → Prop) → Prop
  | [], _ => True
  | e :: l, S => (∀ a, S a → Cov s utf dom M e a) ∧ CovAll s utf dom M l (img (den s utf M e) S)

theorem cov_all_iff {dom : List UInt8 → Nat → Prop} {M M' : Kn} (hM : ∀ nm b x, dom nm b → (M' nm b x ↔ M nm b x)) : ∀ (l : List Ex) {S T : Nat → Prop}, (∀ a, T a ↔ S a) → CovAll s utf dom M l S → ∀ x, denAll s utf M' l T x ↔ denAll s utf M l S x
  | [], S, T, hS, _, x => by simp only [denAll]; exact hS x
  | e :: l, S, T, hS, h, x => by
    simp only [denAll]
    refine cov_all_iff hM l (fun y => ?_) h.2 x
    exact img_congr hS (fun a ha y => h.1 a ((hS a).1 ha) M' hM y) y

theorem cov_seq {dom : List UInt8 → Nat → Prop} {M : Kn} {text : List UInt8} {nums : List Int} {least most : Int} {kids : List Ex} {a : Nat} (h : CovAll s utf dom M kids (fun y => y = a)) : Cov s utf dom M (.mk 2 text nums least most kids) a := by
  intro M' hM x
  rw [den_mk, den_mk]
  simp only [show ¬ (2 : Int) = 1 by decide, if_false, if_true]
  exact cov_all_iff hM kids (fun _ => Iff.rfl) h x

theorem cov_rep {dom : List UInt8 → Nat → Prop} {M : Kn} {text : List UInt8} {nums : List Int} {least most : Int} {e : Ex} {kids : List Ex} {a : Nat}
    (h : ∀ (m : Nat) (b : Nat), (most = -1 ∨ (m : Int) < most) → pow (den s utf M e) m (fun y => y = a) b → Cov s utf dom M e b) : Cov s utf dom M (.mk 3 text nums least most (e :: kids)) a := by
  intro M' hM x
  rw [den_mk, den_mk]
  simp only [show ¬ (3 : Int) = 1 by decide, show ¬ (3 : Int) = 2 by decide, if_false, if_true]
  have key : ∀ n : Nat, (most = -1 ∨ (n : Int) ≤ most) → ∀ x, pow (denHead s utf M' (e :: kids)) n (fun y => y = a) x ↔ pow (denHead s utf M (e :: kids)) n (fun y => y = a) x := by
    intro n
    induction n with
    | zero => intro _ x; exact Iff.rfl
    | succ n ih =>
      intro hn x
      simp only [pow]
      have hn' : most = -1 ∨ (n : Int) < most := by omega
      refine img_congr (ih (by omega)) (fun b hb y => ?_) x
      simp only [denHead]
      have hb' : pow (den s utf M e) n (fun y => y = a) b := by
        have := (ih (by omega) b).1 hb
        simpa only [denHead] using this
      exact h n b hn' hb' M' hM y
  exact ⟨fun ⟨n, h1, h2, h3⟩ => ⟨n, h1, h2, (key n h2 x).1 h3⟩, fun ⟨n, h1, h2, h3⟩ => ⟨n, h1, h2, (key n h2 x).2 h3⟩⟩

theorem cov_ref {dom : List UInt8 → Nat → Prop} {M : Kn} {text : List UInt8} {nums : List Int} {least most : Int} {kids : List Ex} {a : Nat} (h : dom text a) : Cov s utf dom M (.mk 4 text nums least most kids) a := by
  intro M' hM x
  rw [den_mk, den_mk]
  simp only [show ¬ (4 : Int) = 1 by decide, show ¬ (4 : Int) = 2 by decide, show ¬ (4 : Int) = 3 by decide, if_false, if_true]
  exact hM text a x h

theorem cov_leaf {dom : List UInt8 → Nat → Prop} {M : Kn} {kind : Int} {text : List UInt8} {nums : List Int} {least most : Int} {kids : List Ex} {a : Nat} (h1 : kind ≠ 1) (h2 : kind ≠ 2) (h3 : kind ≠ 3) (h4 : kind ≠ 4) : Cov s utf dom M (.mk kind text nums least most kids) a := by
  intro M' hM x
  rw [den_mk, den_mk]
  simp only [h1, h2, h3, h4, if_false]

end
end Go.Proofs.YtdpielghjaehbaaGreat.Ev

/- sense: what is known so far; a rule's ends as far as known. -/
set_option linter.unusedSectionVars false
set_option linter.unusedSimpArgs false
set_option linter.unusedVariables false
namespace Go.Proofs.YtdpielghjaehbaaGreat.Ev

variable {mem : Nat → Nat → Option Value} {B0 : Nat}

/-- An entry of what is known: name, place, set, stamp. -/
abbrev KE := List UInt8 × Int × Nat × Nat
def keyOf (e : KE) : List UInt8 × Int := (e.1, e.2.1)
def setOf (e : KE) : Nat := e.2.2.1

theorem Holds.congr {d : Seg} {j : Nat} {S T : Int → Prop} (h : Holds d j S) (e : ∀ x, S x ↔ T x) : Holds d j T := by
  obtain ⟨ks, c, h1, h2, h3⟩ := h
  exact ⟨ks, c, h1, h2, fun x => (h3 x).trans (e x)⟩

/-- A set of places, as numbers that are not negative. -/
def HoldsN (d : Seg) (j : Nat) (S : Nat → Prop) : Prop := Holds d j fun z => ∃ p : Nat, S p ∧ z = p

theorem HoldsN.congr {d : Seg} {j : Nat} {S T : Nat → Prop} (h : HoldsN d j S) (e : ∀ x, S x ↔ T x) : HoldsN d j T :=
  Holds.congr h fun z => ⟨fun ⟨p, h1, h2⟩ => ⟨p, (e p).1 h1, h2⟩, fun ⟨p, h1, h2⟩ => ⟨p, (e p).2 h1, h2⟩⟩

theorem HoldsN.at_ {d d' : Seg} {j : Nat} {S : Nat → Prop} (h : HoldsN d j S) (e : get [d'] j = get [d] j) : HoldsN d' j S := by
  obtain ⟨ks, c, h1, h2⟩ := h
  exact ⟨ks, c, e.trans h1, h2⟩

theorem holdsN_nil {d : Seg} {j : Nat} {S : Nat → Prop} (h : get [d] j = some (.pm [] 0)) (hS : ∀ x, ¬ S x) : HoldsN d j S := holds_nil h fun x ⟨p, hp, _⟩ => hS p hp

structure Known (s : List UInt8) (NM : List (List UInt8)) (d : Seg) (k : Nat) (es : List KE) (M : Kn) : Prop where
  obj : ∃ clock, get [d] k = some (.km es clock) ∧ ∀ e ∈ es, e.2.2.2 < clock
  stamps : (es.map (·.2.2.2)).Nodup
  ids : (es.map setOf).Nodup
  keys : (es.map keyOf).Nodup
  sets : ∀ e ∈ es, HoldsN d (setOf e) (M e.1 e.2.1.toNat)
  at_ : ∀ e ∈ es, 0 ≤ e.2.1 ∧ e.2.1 ≤ s.length
  names : ∀ e ∈ es, e.1 ∈ NM
  dom : ∀ nm a x, M nm a x → (nm, (a : Int)) ∈ es.map keyOf
  le : ∀ nm a x, M nm a x → x ≤ s.length

/-- The program's state: the record and what is known. -/
structure Kst (s : List UInt8) (utf : Bool) (NM : List (List UInt8)) (ix k : Nat) (d : Seg) (es : List KE) (M : Kn) (gr : Bool) : Prop where
  sense : SenseAt d ix s utf k gr
  known : Known s NM d k es M

/-- From one state to a later one: keys may have come. -/
structure Later (s : List UInt8) (utf : Bool) (NM : List (List UInt8)) (ix k : Nat) (d : Seg) (n : Nat) (es : List KE) (gr : Bool) (M : Kn) (d' : Seg) (es' : List KE) (gr' : Bool) : Prop where
  keeps : ∀ x, x < n → x ≠ ix → x ≠ k → get [d'] x = get [d] x
  st : Kst s utf NM ix k d' es' M gr'
  more : ∃ ex, es' = es ++ ex ∧ (∀ e ∈ ex, n ≤ setOf e) ∧ (gr' = true ↔ (gr = true ∨ ex ≠ []))

section
variable {s : List UInt8} {utf : Bool} {NM : List (List UInt8)} {ix k : Nat} {d d' d2 : Seg} {n n1 : Nat} {es es' es2 : List KE} {M : Kn} {gr gr' gr2 : Bool}

theorem Kst.ne (h : Kst s utf NM ix k d es M gr) : ix ≠ k := fun e => by
  obtain ⟨c, hk, _⟩ := h.known.obj
  have := h.sense
  rw [SenseAt, e, hk] at this
  cases this

theorem Kst.set_ne (h : Kst s utf NM ix k d es M gr) {e : KE} (he : e ∈ es) : setOf e ≠ ix ∧ setOf e ≠ k := by
  obtain ⟨ks, c, h1, _⟩ := h.known.sets e he
  obtain ⟨c2, hk, _⟩ := h.known.obj
  refine ⟨fun e' => ?_, fun e' => ?_⟩
  · have := h.sense
    rw [SenseAt, ← e', h1] at this
    cases this
  · rw [e', hk] at h1; cases h1

theorem Later.refl (h : Kst s utf NM ix k d es M gr) : Later s utf NM ix k d n es gr M d es gr :=
  ⟨fun _ _ _ _ => rfl, h, [], by simp, by simp, by simp⟩

theorem Later.trans (h : Later s utf NM ix k d n es gr M d' es' gr') (h2 : Later s utf NM ix k d' n1 es' gr' M d2 es2 gr2) (hn : n ≤ n1) : Later s utf NM ix k d n es gr M d2 es2 gr2 := by
  obtain ⟨ex, e1, i1, g1⟩ := h.more
  obtain ⟨ex2, e2, i2, g2⟩ := h2.more
  refine ⟨fun x hx h3 h4 => (h2.keeps x (by omega) h3 h4).trans (h.keeps x hx h3 h4), h2.st, ex ++ ex2, by rw [e2, e1, List.append_assoc], ?_, ?_⟩
  · intro e he
    rcases List.mem_append.1 he with he | he
    · exact i1 e he
    · have := i2 e he; omega
  · rw [g2, g1]
    simp only [ne_eq, List.append_eq_nil_iff, not_and]
    by_cases hx : ex = []
    · simp [hx]
    · simp [hx]

/-- What is no part of the state may change, and what is new. -/
theorem Kst.frame (h : Kst s utf NM ix k d es M gr) (h1 : get [d'] ix = get [d] ix) (h2 : get [d'] k = get [d] k) (h3 : ∀ e ∈ es, get [d'] (setOf e) = get [d] (setOf e)) : Kst s utf NM ix k d' es M gr := by
  obtain ⟨c, hk, hb⟩ := h.known.obj
  exact ⟨by rw [SenseAt, h1]; exact h.sense, ⟨⟨c, by rw [h2]; exact hk, hb⟩, h.known.stamps, h.known.ids, h.known.keys, fun e he => (h.known.sets e he).at_ (h3 e he), h.known.at_, h.known.names, h.known.dom, h.known.le⟩⟩

theorem Kst.live (h : Kst s utf NM ix k d es M gr) (hl : Live d n) : ix < n ∧ k < n ∧ ∀ e ∈ es, setOf e < n := by
  obtain ⟨c, hk, _⟩ := h.known.obj
  refine ⟨(hl ix _ h.sense).1, (hl k _ hk).1, fun e he => ?_⟩
  obtain ⟨ks, c, h1, _⟩ := h.known.sets e he
  exact (hl _ _ h1).1

theorem Kst.keep (h : Kst s utf NM ix k d es M gr) (hl : Live d n) (hk : Keeps d n d') : Kst s utf NM ix k d' es M gr := by
  obtain ⟨h1, h2, h3⟩ := h.live hl
  exact h.frame (hk ix h1) (hk k h2) fun e he => hk _ (h3 e he)

/-- New objects alone. -/
theorem Later.keep (h : Kst s utf NM ix k d es M gr) (hl : Live d n) (hk : Keeps d n d') : Later s utf NM ix k d n es gr M d' es gr :=
  ⟨fun x hx _ _ => hk x hx, h.keep hl hk, [], by simp, by simp, by simp⟩

/-- An object of the call's own changes. -/
theorem Later.but (h : Later s utf NM ix k d n es gr M d' es' gr') {j : Nat} (hj : n ≤ j) (hjs : ∀ e ∈ es', setOf e ≠ j) (hj1 : ix ≠ j) (hj2 : k ≠ j) (hl : Live d' n1) (hk : KeepsBut j d' n1 d2) (hn : n ≤ n1) : Later s utf NM ix k d n es gr M d2 es' gr' := by
  obtain ⟨h1, h2, h3⟩ := h.st.live hl
  refine ⟨fun x hx h4 h5 => (hk x (by omega) (by omega)).trans (h.keeps x hx h4 h5), ?_, h.more⟩
  exact h.st.frame (hk ix h1 hj1) (hk k h2 hj2) fun e he => hk _ (h3 e he) (hjs e he)

def domOf (es : List KE) (nm : List UInt8) (a : Nat) : Prop := (nm, (a : Int)) ∈ es.map keyOf

theorem Later.dom (h : Later s utf NM ix k d n es gr M d' es' gr') {nm : List UInt8} {a : Nat} (ha : domOf es nm a) : domOf es' nm a := by
  obtain ⟨ex, rfl, _⟩ := h.more
  unfold domOf at *
  rw [List.map_append]
  exact List.mem_append_left _ ha

end

theorem kfind_some {nm : List UInt8} {q : Int} {i : Nat} : ∀ {es : List KE}, kfind nm q es = some i → ∃ e ∈ es, keyOf e = (nm, q) ∧ setOf e = i
  | [], h => by cases h
  | (m, a, j, c) :: es, h => by
    simp only [kfind] at h
    split at h
    · rename_i hc
      simp only [Bool.and_eq_true, beq_iff_eq, sameBytes_iff] at hc
      obtain ⟨rfl, rfl⟩ := hc
      simp only [Option.some.injEq] at h
      exact ⟨_, List.mem_cons_self .., rfl, h⟩
    · obtain ⟨e, he, h2⟩ := kfind_some h
      exact ⟨e, List.mem_cons_of_mem _ he, h2⟩

theorem kfind_none {nm : List UInt8} {q : Int} : ∀ {es : List KE}, kfind nm q es = none → (nm, q) ∉ es.map keyOf
  | [], h => by simp
  | (m, a, j, c) :: es, h => by
    simp only [kfind] at h
    split at h
    · cases h
    · rename_i hc
      have := kfind_none h
      simp only [Bool.and_eq_true, beq_iff_eq, sameBytes_iff] at hc
      simp only [List.map_cons, List.mem_cons, not_or]
      refine ⟨fun e => hc ?_, this⟩
      simp only [keyOf, Prod.mk.injEq] at e
      exact ⟨e.1.symm, e.2.symm⟩

theorem kfind_snoc {nm : List UInt8} {q : Int} {j c : Nat} : ∀ {es : List KE}, kfind nm q es = none → kfind nm q (es ++ [(nm, q, j, c)]) = some j
  | [], h => by
    have : sameBytes nm nm = true := (sameBytes_iff nm nm).2 rfl
    simp [kfind, this]
  | (m, a, i, c') :: es, h => by
    simp only [kfind, List.cons_append] at h ⊢
    split at h
    · cases h
    · rename_i hc
      rw [if_neg hc]
      exact kfind_snoc h

theorem isKey_key : isKeyT (senv mem) 80 = true := rfl

section
variable {s : List UInt8} {utf : Bool} {NM : List (List UInt8)} {ix k : Nat} {d : Seg} {n : Nat} {es : List KE} {M : Kn} {gr : Bool}

/-- A new key with no ends. -/
theorem Kst.snoc (h : Kst s utf NM ix k d es M gr) (hl : Live d n) {nm : List UInt8} {a : Nat} (ha : a ≤ s.length) (hnm : nm ∈ NM) (hnew : (nm, (a : Int)) ∉ es.map keyOf) {d' : Seg} {j c : Nat} (hc : get [d] k = some (.km es c)) (hj : n ≤ j)
    (h1 : get [d'] ix = some (.cells 73 [.str s, .bool utf, .mref k, .bool true])) (h2 : get [d'] k = some (.km (es ++ [(nm, (a : Int), j, c)]) (c + 1))) (h3 : get [d'] j = some (.pm [] 0)) (hk : ∀ x, x < n → x ≠ ix → x ≠ k → get [d'] x = get [d] x) :
    Later s utf NM ix k d n es gr M d' (es ++ [(nm, (a : Int), j, c)]) true := by
  obtain ⟨l1, l2, l3⟩ := h.live hl
  obtain ⟨c', hk', hb⟩ := h.known.obj
  have : c' = c := by rw [hc] at hk'; simp only [Option.some.injEq, AObj.km.injEq] at hk'; exact hk'.2.symm
  subst this
  refine ⟨hk, ⟨h1, ⟨⟨_, h2, ?_⟩, ?_, ?_, ?_, ?_, ?_, ?_, ?_, h.known.le⟩⟩, [_], rfl, ?_, ?_⟩
  · intro e he
    rcases List.mem_append.1 he with he | he
    · have := hb e he; omega
    · simp only [List.mem_singleton] at he; subst he; simp
  · simp only [List.map_append, List.map_cons, List.map_nil]
    refine List.nodup_append.2 ⟨h.known.stamps, by simp, ?_⟩
    intro x hx y hy
    simp only [List.mem_singleton] at hy
    obtain ⟨e, he, rfl⟩ := List.mem_map.1 hx
    have := hb e he
    omega
  · simp only [List.map_append, List.map_cons, List.map_nil]
    refine List.nodup_append.2 ⟨h.known.ids, by simp, ?_⟩
    intro x hx y hy
    simp only [List.mem_singleton] at hy
    obtain ⟨e, he, rfl⟩ := List.mem_map.1 hx
    have := l3 e he
    simp only [setOf] at *
    omega
  · simp only [List.map_append, List.map_cons, List.map_nil]
    refine List.nodup_append.2 ⟨h.known.keys, by simp, ?_⟩
    intro x hx y hy
    simp only [List.mem_singleton] at hy
    subst hy
    rintro rfl
    exact hnew hx
  · intro e he
    rcases List.mem_append.1 he with he | he
    · obtain ⟨n1, n2⟩ := h.set_ne he
      exact (h.known.sets e he).at_ (hk _ (l3 e he) n1 n2)
    · simp only [List.mem_singleton] at he; subst he
      exact holdsN_nil h3 fun x hx => hnew (by simpa using h.known.dom _ _ _ hx)
  · intro e he
    rcases List.mem_append.1 he with he | he
    · exact h.known.at_ e he
    · simp only [List.mem_singleton] at he; subst he; simp only; omega
  · intro e he
    rcases List.mem_append.1 he with he | he
    · exact h.known.names e he
    · simp only [List.mem_singleton] at he; subst he; exact hnm
  · intro nm' a' x hx
    rw [List.map_append]
    exact List.mem_append_left _ (h.known.dom nm' a' x hx)
  · intro e he
    simp only [List.mem_singleton] at he; subst he; exact hj
  · simp

end

set_option maxRecDepth 20000 in
theorem ref_ok {s : List UInt8} {utf : Bool} {NM : List (List UInt8)} {ix k : Nat} {d : Seg} {n : Nat} {es : List KE} {M : Kn} {gr : Bool} (h : Kst s utf NM ix k d es M gr) {nm : List UInt8} {a : Nat} (ha : a ≤ s.length) (hnm : nm ∈ NM) :
    CallsA Tryz.prog (senv mem) B0 31 [.c (.ptr ix 0), .c (.str nm), .c (.int .i64 a)] d n fun v d' n' => ∃ j es' gr', v = .c (.mref j) ∧ Later s utf NM ix k d n es gr M d' es' gr' ∧ HoldsN d' j (M nm a) ∧ domOf es' nm a := by
  refine callsA_code senv_ok none1_ok Tryz.func31 rfl (by decide) rfl rfl (by simp) fun hl _ Q hQ => ?_
  have hx1 : get [d] ix = some (.cells 73 [.str s, .bool utf, .mref k, .bool gr]) := h.sense
  obtain ⟨c, hkm, hb⟩ := h.known.obj
  obtain ⟨l1, l2, l3⟩ := h.live hl
  have hnx : ¬ n = ix := by omega
  have hnk : ¬ n = k := by omega
  have hik : ¬ ix = k := h.ne
  have hki : ¬ k = ix := fun e => hik e.symm
  simp +decide -implicitDefEqProofs only [stp,code_seq,evWanted,evOp,val,absV,evBin,evConv,evBuiltin,cmpInt,vals,partsOf,isAggD,cellsOf,isAggV,Nat.reduceEqDiff,Nat.reduceLT,Nat.reduceBEq,Nat.reduceBNe,reduceCtorEq,if_true,if_false,reduceIte,forall_const,IntKind.bits,IntKind.signed,eq_self_iff_true,finalOf,resultOf,cellsGood,AC.isCell,senv_mem,lift, Tryz.f31, ty3,ty4,ty5,ty9,ty21,ty22,ty33,ty34,ty23,ty36,ty40,ty73,ty71,ty75,ty80,ty77,ty90, none1, spliceAll,allFields,places,splice,List.take_zero,List.take_succ_cons,List.take_nil,List.drop_zero,List.drop_succ_cons,List.drop_nil,List.nil_append,List.append_nil,List.cons_append,List.all_cons,List.all_nil,Option.isSome_some,Nat.reduceAdd,Nat.reduceSub,Nat.reduceMul,Nat.reduceMod,Nat.reduceLeDiff,List.range,List.range.loop,List.map_cons,List.map_nil,pfind]
  cases hf : kfind nm (a : Int) es with
  | some j =>
    apply code_drawn senv_ok none1_ok (by decide) _ (by rfl)
    · simp +decide -implicitDefEqProofs only [stp,code_seq,evWanted,evOp,val,absV,evBin,evConv,evBuiltin,cmpInt,vals,partsOf,isAggD,cellsOf,isAggV,Nat.reduceEqDiff,Nat.reduceLT,Nat.reduceBEq,Nat.reduceBNe,reduceCtorEq,if_true,if_false,reduceIte,forall_const,IntKind.bits,IntKind.signed,eq_self_iff_true,finalOf,resultOf,cellsGood,AC.isCell,senv_mem,lift, flat,d_nil,d_cons,d_true,d_false,d_some,d_some1,slotsAt_get,slotsAt_nt,get_mk_cons,get_mk,wrs_nil,wrs_cons,wrs_none,get_heapAt,get_seen_nil,get_seen_cons,get_seen_one,List.cons_append,List.nil_append,Nat.reduceSub,Nat.reduceAdd,Nat.add_one_sub_one,bitOf, ty3,ty4,ty5,ty9,ty21,ty22,ty33,ty34,ty23,ty36,ty40,ty73,ty71,ty75,ty80,ty77,ty90, hx1, hnx, hkm, hnk, hf, isKey_key, spliceAll,allFields,places,splice,List.take_zero,List.take_succ_cons,List.take_nil,List.drop_zero,List.drop_succ_cons,List.drop_nil,List.nil_append,List.append_nil,List.cons_append,List.all_cons,List.all_nil,Option.isSome_some,Nat.reduceAdd,Nat.reduceSub,Nat.reduceMul,Nat.reduceMod,Nat.reduceLeDiff,List.range,List.range.loop,List.map_cons,List.map_nil,pfind]
      rfl
    · rfl
    · simp +decide -implicitDefEqProofs only [stp,code_seq,evWanted,evOp,val,absV,evBin,evConv,evBuiltin,cmpInt,vals,partsOf,isAggD,cellsOf,isAggV,Nat.reduceEqDiff,Nat.reduceLT,Nat.reduceBEq,Nat.reduceBNe,reduceCtorEq,if_true,if_false,reduceIte,forall_const,IntKind.bits,IntKind.signed,eq_self_iff_true,finalOf,resultOf,cellsGood,AC.isCell,senv_mem,lift, flat,d_nil,d_cons,d_true,d_false,d_some,d_some1,slotsAt_get,slotsAt_nt,get_mk_cons,get_mk,wrs_nil,wrs_cons,wrs_none,get_heapAt,get_seen_nil,get_seen_cons,get_seen_one,List.cons_append,List.nil_append,Nat.reduceSub,Nat.reduceAdd,Nat.add_one_sub_one,bitOf, ty3,ty4,ty5,ty9,ty21,ty22,ty33,ty34,ty23,ty36,ty40,ty73,ty71,ty75,ty80,ty77,ty90]
      apply code_drawn senv_ok none1_ok (by decide) _ (by rfl)
      · simp +decide -implicitDefEqProofs only [stp,code_seq,evWanted,evOp,val,absV,evBin,evConv,evBuiltin,cmpInt,vals,partsOf,isAggD,cellsOf,isAggV,Nat.reduceEqDiff,Nat.reduceLT,Nat.reduceBEq,Nat.reduceBNe,reduceCtorEq,if_true,if_false,reduceIte,forall_const,IntKind.bits,IntKind.signed,eq_self_iff_true,finalOf,resultOf,cellsGood,AC.isCell,senv_mem,lift, flat,d_nil,d_cons,d_true,d_false,d_some,d_some1,slotsAt_get,slotsAt_nt,get_mk_cons,get_mk,wrs_nil,wrs_cons,wrs_none,get_heapAt,get_seen_nil,get_seen_cons,get_seen_one,List.cons_append,List.nil_append,Nat.reduceSub,Nat.reduceAdd,Nat.add_one_sub_one,bitOf, ty3,ty4,ty5,ty9,ty21,ty22,ty33,ty34,ty23,ty36,ty40,ty73,ty71,ty75,ty80,ty77,ty90, hx1, hnx, hkm, hnk, hf, isKey_key, spliceAll,allFields,places,splice,List.take_zero,List.take_succ_cons,List.take_nil,List.drop_zero,List.drop_succ_cons,List.drop_nil,List.nil_append,List.append_nil,List.cons_append,List.all_cons,List.all_nil,Option.isSome_some,Nat.reduceAdd,Nat.reduceSub,Nat.reduceMul,Nat.reduceMod,Nat.reduceLeDiff,List.range,List.range.loop,List.map_cons,List.map_nil,pfind]
        rfl
      · rfl
      · simp +decide -implicitDefEqProofs only [stp,code_seq,evWanted,evOp,val,absV,evBin,evConv,evBuiltin,cmpInt,vals,partsOf,isAggD,cellsOf,isAggV,Nat.reduceEqDiff,Nat.reduceLT,Nat.reduceBEq,Nat.reduceBNe,reduceCtorEq,if_true,if_false,reduceIte,forall_const,IntKind.bits,IntKind.signed,eq_self_iff_true,finalOf,resultOf,cellsGood,AC.isCell,senv_mem,lift, flat,d_nil,d_cons,d_true,d_false,d_some,d_some1,slotsAt_get,slotsAt_nt,get_mk_cons,get_mk,wrs_nil,wrs_cons,wrs_none,get_heapAt,get_seen_nil,get_seen_cons,get_seen_one,List.cons_append,List.nil_append,Nat.reduceSub,Nat.reduceAdd,Nat.add_one_sub_one,bitOf, ty3,ty4,ty5,ty9,ty21,ty22,ty33,ty34,ty23,ty36,ty40,ty73,ty71,ty75,ty80,ty77,ty90]
        obtain ⟨e, he, hke, hse⟩ := kfind_some hf
        have hkd : Keeps d n ((n, some (AObj.cells 80 [AC.str nm, AC.int IntKind.i64 a])) :: (n, some (AObj.cells 80 [AC.str [], AC.int IntKind.i64 0])) :: d) := ((Keeps.refl d n).cons (Nat.le_refl n)).cons (Nat.le_refl n)
        simp only [keyOf, Prod.mk.injEq] at hke
        refine hQ _ _ _ _ (.c (.mref j)) (.inr rfl) ?_ ⟨j, es, gr, rfl, Later.keep h hl hkd, ?_, ?_⟩
        · simp +decide -implicitDefEqProofs only [stp,code_seq,evWanted,evOp,val,absV,evBin,evConv,evBuiltin,cmpInt,vals,partsOf,isAggD,cellsOf,isAggV,Nat.reduceEqDiff,Nat.reduceLT,Nat.reduceBEq,Nat.reduceBNe,reduceCtorEq,if_true,if_false,reduceIte,forall_const,IntKind.bits,IntKind.signed,eq_self_iff_true,finalOf,resultOf,cellsGood,AC.isCell,senv_mem,lift, flat,d_nil,d_cons,d_true,d_false,d_some,d_some1,slotsAt_get,slotsAt_nt,get_mk_cons,get_mk,wrs_nil,wrs_cons,wrs_none,get_heapAt,get_seen_nil,get_seen_cons,get_seen_one,List.cons_append,List.nil_append,Nat.reduceSub,Nat.reduceAdd,Nat.add_one_sub_one,bitOf, Tryz.f31]
        · have := h.known.sets e he
          rw [hke.1, hke.2, hse, Int.toNat_natCast] at this
          exact this.at_ (hkd j (hse ▸ l3 e he))
        · exact List.mem_map.2 ⟨e, he, by simp only [keyOf, hke]⟩
  | none =>
    apply code_drawn senv_ok none1_ok (by decide) _ (by rfl)
    · simp +decide -implicitDefEqProofs only [stp,code_seq,evWanted,evOp,val,absV,evBin,evConv,evBuiltin,cmpInt,vals,partsOf,isAggD,cellsOf,isAggV,Nat.reduceEqDiff,Nat.reduceLT,Nat.reduceBEq,Nat.reduceBNe,reduceCtorEq,if_true,if_false,reduceIte,forall_const,IntKind.bits,IntKind.signed,eq_self_iff_true,finalOf,resultOf,cellsGood,AC.isCell,senv_mem,lift, flat,d_nil,d_cons,d_true,d_false,d_some,d_some1,slotsAt_get,slotsAt_nt,get_mk_cons,get_mk,wrs_nil,wrs_cons,wrs_none,get_heapAt,get_seen_nil,get_seen_cons,get_seen_one,List.cons_append,List.nil_append,Nat.reduceSub,Nat.reduceAdd,Nat.add_one_sub_one,bitOf, ty3,ty4,ty5,ty9,ty21,ty22,ty33,ty34,ty23,ty36,ty40,ty73,ty71,ty75,ty80,ty77,ty90, hx1, hnx, hkm, hnk, hf, isKey_key, spliceAll,allFields,places,splice,List.take_zero,List.take_succ_cons,List.take_nil,List.drop_zero,List.drop_succ_cons,List.drop_nil,List.nil_append,List.append_nil,List.cons_append,List.all_cons,List.all_nil,Option.isSome_some,Nat.reduceAdd,Nat.reduceSub,Nat.reduceMul,Nat.reduceMod,Nat.reduceLeDiff,List.range,List.range.loop,List.map_cons,List.map_nil,pfind]
      rfl
    · rfl
    · have hnn : ¬ n + 1 = ix := by omega
      have hnn2 : ¬ n + 1 = k := by omega
      simp +decide -implicitDefEqProofs only [stp,code_seq,evWanted,evOp,val,absV,evBin,evConv,evBuiltin,cmpInt,vals,partsOf,isAggD,cellsOf,isAggV,Nat.reduceEqDiff,Nat.reduceLT,Nat.reduceBEq,Nat.reduceBNe,reduceCtorEq,if_true,if_false,reduceIte,forall_const,IntKind.bits,IntKind.signed,eq_self_iff_true,finalOf,resultOf,cellsGood,AC.isCell,senv_mem,lift, flat,d_nil,d_cons,d_true,d_false,d_some,d_some1,slotsAt_get,slotsAt_nt,get_mk_cons,get_mk,wrs_nil,wrs_cons,wrs_none,get_heapAt,get_seen_nil,get_seen_cons,get_seen_one,List.cons_append,List.nil_append,Nat.reduceSub,Nat.reduceAdd,Nat.add_one_sub_one,bitOf, ty3,ty4,ty5,ty9,ty21,ty22,ty33,ty34,ty23,ty36,ty40,ty73,ty71,ty75,ty80,ty77,ty90]
      apply code_drawn senv_ok none1_ok (by decide) _ (by rfl)
      · simp +decide -implicitDefEqProofs only [stp,code_seq,evWanted,evOp,val,absV,evBin,evConv,evBuiltin,cmpInt,vals,partsOf,isAggD,cellsOf,isAggV,Nat.reduceEqDiff,Nat.reduceLT,Nat.reduceBEq,Nat.reduceBNe,reduceCtorEq,if_true,if_false,reduceIte,forall_const,IntKind.bits,IntKind.signed,eq_self_iff_true,finalOf,resultOf,cellsGood,AC.isCell,senv_mem,lift, flat,d_nil,d_cons,d_true,d_false,d_some,d_some1,slotsAt_get,slotsAt_nt,get_mk_cons,get_mk,wrs_nil,wrs_cons,wrs_none,get_heapAt,get_seen_nil,get_seen_cons,get_seen_one,List.cons_append,List.nil_append,Nat.reduceSub,Nat.reduceAdd,Nat.add_one_sub_one,bitOf, ty3,ty4,ty5,ty9,ty21,ty22,ty33,ty34,ty23,ty36,ty40,ty73,ty71,ty75,ty80,ty77,ty90, hx1, hnx, hkm, hnk, hf, isKey_key, hnn, hnn2, spliceAll,allFields,places,splice,List.take_zero,List.take_succ_cons,List.take_nil,List.drop_zero,List.drop_succ_cons,List.drop_nil,List.nil_append,List.append_nil,List.cons_append,List.all_cons,List.all_nil,Option.isSome_some,Nat.reduceAdd,Nat.reduceSub,Nat.reduceMul,Nat.reduceMod,Nat.reduceLeDiff,List.range,List.range.loop,List.map_cons,List.map_nil,pfind]
        rfl
      · simp +decide [laters, laterIds, subAll, subIds, bitOf]
      · have hxn : ¬ ix = n := by omega
        have hkn : ¬ k = n := by omega
        have hnn3 : ¬ n + 1 = n := by omega
        have hf2 := kfind_snoc (j := n + 1) (c := c) hf
        simp +decide -implicitDefEqProofs only [stp,code_seq,evWanted,evOp,val,absV,evBin,evConv,evBuiltin,cmpInt,vals,partsOf,isAggD,cellsOf,isAggV,Nat.reduceEqDiff,Nat.reduceLT,Nat.reduceBEq,Nat.reduceBNe,reduceCtorEq,if_true,if_false,reduceIte,forall_const,IntKind.bits,IntKind.signed,eq_self_iff_true,finalOf,resultOf,cellsGood,AC.isCell,senv_mem,lift, flat,d_nil,d_cons,d_true,d_false,d_some,d_some1,slotsAt_get,slotsAt_nt,get_mk_cons,get_mk,wrs_nil,wrs_cons,wrs_none,get_heapAt,get_seen_nil,get_seen_cons,get_seen_one,List.cons_append,List.nil_append,Nat.reduceSub,Nat.reduceAdd,Nat.add_one_sub_one,bitOf, ty3,ty4,ty5,ty9,ty21,ty22,ty33,ty34,ty23,ty36,ty40,ty73,ty71,ty75,ty80,ty77,ty90, hx1, hnx, hnn, hki, spliceAll,allFields,places,splice,List.take_zero,List.take_succ_cons,List.take_nil,List.drop_zero,List.drop_succ_cons,List.drop_nil,List.nil_append,List.append_nil,List.cons_append,List.all_cons,List.all_nil,Option.isSome_some,Nat.reduceAdd,Nat.reduceSub,Nat.reduceMul,Nat.reduceMod,Nat.reduceLeDiff,List.range,List.range.loop,List.map_cons,List.map_nil,pfind]
        apply code_drawn senv_ok none1_ok (by decide) _ (by rfl)
        · simp +decide -implicitDefEqProofs only [stp,code_seq,evWanted,evOp,val,absV,evBin,evConv,evBuiltin,cmpInt,vals,partsOf,isAggD,cellsOf,isAggV,Nat.reduceEqDiff,Nat.reduceLT,Nat.reduceBEq,Nat.reduceBNe,reduceCtorEq,if_true,if_false,reduceIte,forall_const,IntKind.bits,IntKind.signed,eq_self_iff_true,finalOf,resultOf,cellsGood,AC.isCell,senv_mem,lift, flat,d_nil,d_cons,d_true,d_false,d_some,d_some1,slotsAt_get,slotsAt_nt,get_mk_cons,get_mk,wrs_nil,wrs_cons,wrs_none,get_heapAt,get_seen_nil,get_seen_cons,get_seen_one,List.cons_append,List.nil_append,Nat.reduceSub,Nat.reduceAdd,Nat.add_one_sub_one,bitOf, ty3,ty4,ty5,ty9,ty21,ty22,ty33,ty34,ty23,ty36,ty40,ty73,ty71,ty75,ty80,ty77,ty90, hx1, hnx, hkm, hnk, hf2, isKey_key, hik, hki, hnn, hnn2, hxn, hkn, hnn3, spliceAll,allFields,places,splice,List.take_zero,List.take_succ_cons,List.take_nil,List.drop_zero,List.drop_succ_cons,List.drop_nil,List.nil_append,List.append_nil,List.cons_append,List.all_cons,List.all_nil,Option.isSome_some,Nat.reduceAdd,Nat.reduceSub,Nat.reduceMul,Nat.reduceMod,Nat.reduceLeDiff,List.range,List.range.loop,List.map_cons,List.map_nil,pfind]
          rfl
        · rfl
        · simp +decide -implicitDefEqProofs only [stp,code_seq,evWanted,evOp,val,absV,evBin,evConv,evBuiltin,cmpInt,vals,partsOf,isAggD,cellsOf,isAggV,Nat.reduceEqDiff,Nat.reduceLT,Nat.reduceBEq,Nat.reduceBNe,reduceCtorEq,if_true,if_false,reduceIte,forall_const,IntKind.bits,IntKind.signed,eq_self_iff_true,finalOf,resultOf,cellsGood,AC.isCell,senv_mem,lift, flat,d_nil,d_cons,d_true,d_false,d_some,d_some1,slotsAt_get,slotsAt_nt,get_mk_cons,get_mk,wrs_nil,wrs_cons,wrs_none,get_heapAt,get_seen_nil,get_seen_cons,get_seen_one,List.cons_append,List.nil_append,Nat.reduceSub,Nat.reduceAdd,Nat.add_one_sub_one,bitOf, ty3,ty4,ty5,ty9,ty21,ty22,ty33,ty34,ty23,ty36,ty40,ty73,ty71,ty75,ty80,ty77,ty90]
          refine hQ _ _ _ _ (.c (.mref (n + 1))) (.inr rfl) ?_ ⟨n + 1, es ++ [(nm, (a : Int), n + 1, c)], true, rfl, Kst.snoc h hl ha hnm (kfind_none hf) hkm (by omega) ?_ ?_ ?_ ?_, ?_, ?_⟩
          · simp +decide -implicitDefEqProofs only [stp,code_seq,evWanted,evOp,val,absV,evBin,evConv,evBuiltin,cmpInt,vals,partsOf,isAggD,cellsOf,isAggV,Nat.reduceEqDiff,Nat.reduceLT,Nat.reduceBEq,Nat.reduceBNe,reduceCtorEq,if_true,if_false,reduceIte,forall_const,IntKind.bits,IntKind.signed,eq_self_iff_true,finalOf,resultOf,cellsGood,AC.isCell,senv_mem,lift, flat,d_nil,d_cons,d_true,d_false,d_some,d_some1,slotsAt_get,slotsAt_nt,get_mk_cons,get_mk,wrs_nil,wrs_cons,wrs_none,get_heapAt,get_seen_nil,get_seen_cons,get_seen_one,List.cons_append,List.nil_append,Nat.reduceSub,Nat.reduceAdd,Nat.add_one_sub_one,bitOf, Tryz.f31]
          · simp only [get_cons, if_true]
          · simp only [get_cons, if_neg hik, if_true]
          · simp only [get_cons, if_neg (show ¬ ix = n + 1 by omega), if_neg (show ¬ k = n + 1 by omega), if_true]
          · intro x hx h1 h2
            simp only [get_cons, if_neg (show ¬ ix = x by omega), if_neg (show ¬ k = x by omega), if_neg (show ¬ n + 1 = x by omega), if_neg (show ¬ n = x by omega)]
          · refine holdsN_nil ?_ fun x hx => kfind_none hf (by simpa using h.known.dom _ _ _ hx)
            simp only [get_cons, if_neg (show ¬ ix = n + 1 by omega), if_neg (show ¬ k = n + 1 by omega), if_true]
          · unfold domOf
            rw [List.map_append]
            exact List.mem_append_right _ (by simp [keyOf])

end Go.Proofs.YtdpielghjaehbaaGreat.Ev
