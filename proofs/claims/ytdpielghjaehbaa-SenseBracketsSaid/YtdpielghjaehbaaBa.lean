/- regletlaw06.SenseBrackets: what the two grammars of brackets derive. -/
import Derived.Test.YtdpielghjaehbaaAw
set_option linter.unusedSectionVars false
set_option linter.unusedSimpArgs false
set_option linter.unusedVariables false
namespace Go.Proofs.Ytdpielghjaehbaa.Ev
open Go.RowKit

section
variable {s : List UInt8} {utf : Bool} {M : Kn}

/-- One letter. -/
theorem den_one {c : UInt8} {nums : List Int} {least most : Int} {kids : List Ex} {a x : Nat} : den s utf M (.mk 5 [c] nums least most kids) a x ↔ (x = a + 1 ∧ ∃ b, s[a]? = some b ∧ smallI (b.toNat : Int) = smallI (c.toNat : Int)) := by
  rw [den_fold]
  have cut : ∀ b, s[a]? = some b → List.drop a (List.take (a + 1) s) = [b] := by
    intro b hb
    apply List.ext_getElem?
    intro i
    rw [List.getElem?_drop]
    cases i with
    | zero => rw [List.getElem?_take_of_lt (by omega)]; simpa using hb
    | succ i => rw [List.getElem?_take_eq_none (by omega)]; simp
  constructor
  · rintro ⟨rfl, h2, h3⟩
    refine ⟨rfl, s[a]'(by simp at h2; omega), List.getElem?_eq_getElem _, ?_⟩
    have h3' : alikeB (List.drop a (List.take (a + 1) s)) [c] = true := h3
    rw [cut _ (List.getElem?_eq_getElem (by simp at h2; omega))] at h3'
    simpa [alikeB] using h3'
  · rintro ⟨rfl, b, hb, he⟩
    have hlt : a < s.length := by
      rcases Nat.lt_or_ge a s.length with h | h
      · exact h
      · rw [List.getElem?_eq_none h] at hb; cases hb
    refine ⟨rfl, by omega, ?_⟩
    show alikeB (List.drop a (List.take (a + 1) s)) [c] = true
    rw [cut b hb]
    simp [alikeB, he]

theorem den_empty {nums : List Int} {least most : Int} {kids : List Ex} {a x : Nat} (ha : a ≤ s.length) : den s utf M (.mk 5 [] nums least most kids) a x ↔ x = a := by
  rw [den_fold]
  constructor
  · rintro ⟨h, _⟩; exact h
  · rintro rfl
    refine ⟨rfl, ha, ?_⟩
    have : List.drop x (List.take x s) = [] := List.drop_eq_nil_of_le (by simp; omega)
    rw [this]; rfl
end

/-- A bracket's step; how deep a text ends. -/
def upB (b : UInt8) : Int := if b = 40 then 1 else -1
def hgt : List UInt8 → Int
  | [] => 0
  | b :: l => upB b + hgt l

theorem hgt_append : ∀ (l m : List UInt8), hgt (l ++ m) = hgt l + hgt m
  | [], m => by simp [hgt]
  | b :: l, m => by rw [List.cons_append, hgt, hgt, hgt_append l m]; omega

theorem hgt_succ {s : List UInt8} {p : Nat} {b : UInt8} (h : s[p]? = some b) : hgt (s.take (p + 1)) = hgt (s.take p) + upB b := by
  obtain ⟨hp, rfl⟩ := List.getElem?_eq_some_iff.1 h
  rw [List.take_succ_eq_append_getElem hp, hgt_append]
  simp [hgt]

theorem upB_cases (b : UInt8) : upB b = 1 ∧ b = 40 ∨ upB b = -1 ∧ b ≠ 40 := by
  unfold upB
  split
  · exact .inl ⟨rfl, by assumption⟩
  · exact .inr ⟨rfl, by assumption⟩

/-- From a to x, the text is balanced. -/
def Bal (s : List UInt8) (a x : Nat) : Prop := a ≤ x ∧ x ≤ s.length ∧ hgt (s.take x) = hgt (s.take a) ∧ ∀ q, a ≤ q → q ≤ x → hgt (s.take a) ≤ hgt (s.take q)

def Brs (s : List UInt8) : Prop := ∀ b ∈ s, b = 40 ∨ b = 41

theorem brs_at {s : List UInt8} (hs : Brs s) {p : Nat} {b : UInt8} (h : s[p]? = some b) : (upB b = 1 ∧ b = 40) ∨ (upB b = -1 ∧ b = 41) := by
  rcases hs b (List.mem_of_getElem? h) with rfl | rfl
  · exact .inl ⟨rfl, rfl⟩
  · exact .inr ⟨rfl, rfl⟩

theorem bal_nil {s : List UInt8} {a : Nat} (h : a ≤ s.length) : Bal s a a := ⟨Nat.le_refl _, h, rfl, fun q h1 h2 => by rw [show q = a by omega]; exact Int.le_refl _⟩

theorem bal_join {s : List UInt8} {a y x : Nat} (h1 : Bal s a y) (h2 : Bal s y x) : Bal s a x := by
  obtain ⟨a1, a2, a3, a4⟩ := h1
  obtain ⟨b1, b2, b3, b4⟩ := h2
  refine ⟨by omega, b2, by omega, fun q h1 h2 => ?_⟩
  rcases Nat.le_total q y with h | h
  · exact a4 q h1 h
  · have := b4 q h h2; omega

theorem bal_wrap {s : List UInt8} {y z : Nat} (h1 : s[y]? = some 40) (h : Bal s (y + 1) z) (h2 : s[z]? = some 41) : Bal s y (z + 1) := by
  obtain ⟨a1, a2, a3, a4⟩ := h
  have e1 := hgt_succ h1
  have e2 := hgt_succ h2
  have u1 : upB 40 = 1 := rfl
  have u2 : upB 41 = -1 := rfl
  have hz : z < s.length := (List.getElem?_eq_some_iff.1 h2).1
  refine ⟨by omega, by omega, by omega, fun q hq1 hq2 => ?_⟩
  rcases Nat.lt_or_ge y q with h | h
  · rcases Nat.lt_or_ge z q with h' | h'
    · rw [show q = z + 1 by omega]; omega
    · have := a4 q (by omega) h'; omega
  · rw [show q = y by omega]; exact Int.le_refl _

theorem last_at (f : Nat → Int) (a : Nat) : ∀ x, a < x → ∃ q, a ≤ q ∧ q < x ∧ f q = f a ∧ ∀ r, q < r → r < x → f r ≠ f a
  | 0, h => by omega
  | x + 1, h => by
    by_cases e : f x = f a
    · exact ⟨x, by omega, by omega, e, fun r h1 h2 => by omega⟩
    · rcases Nat.lt_or_ge a x with h1 | h1
      · obtain ⟨q, h2, h3, h4, h5⟩ := last_at f a x h1
        refine ⟨q, h2, by omega, h4, fun r h6 h7 => ?_⟩
        rcases Nat.lt_or_ge r x with h8 | h8
        · exact h5 r h6 h8
        · rw [show r = x by omega]; exact e
      · exact absurd (by rw [show x = a by omega]) e

/-- The last pair of a balanced text. -/
theorem bal_last {s : List UInt8} (hs : Brs s) {a x : Nat} (h : Bal s a x) (hax : a < x) : ∃ y z, a ≤ y ∧ y < z ∧ x = z + 1 ∧ Bal s a y ∧ s[y]? = some 40 ∧ Bal s (y + 1) z ∧ s[z]? = some 41 := by
  obtain ⟨a1, a2, a3, a4⟩ := h
  obtain ⟨z, rfl⟩ : ∃ z, x = z + 1 := ⟨x - 1, by omega⟩
  obtain ⟨y, h1, h2, h3, h4⟩ := last_at (fun q => hgt (s.take q)) a (z + 1) hax
  have hz : s[z]? = some s[z] := List.getElem?_eq_getElem (by omega)
  have hy : s[y]? = some s[y] := List.getElem?_eq_getElem (by omega)
  have ez := hgt_succ hz
  have ey := hgt_succ hy
  have kz := a4 z (by omega) (by omega)
  have ky := a4 (y + 1) (by omega) (by omega)
  have h3 : hgt (s.take y) = hgt (s.take a) := h3
  have kd : hgt (s.take z) = hgt (s.take a) + 1 ∧ s[z] = 41 := by
    rcases brs_at hs hz with ⟨e, _⟩ | ⟨e, e'⟩
    · omega
    · exact ⟨by omega, e'⟩
  have ku : hgt (s.take (y + 1)) = hgt (s.take a) + 1 ∧ s[y] = 40 := by
    rcases brs_at hs hy with ⟨e, e'⟩ | ⟨e, _⟩
    · exact ⟨by omega, e'⟩
    · omega
  have hyz : y < z := by
    rcases Nat.lt_or_ge y z with h | h
    · exact h
    · have : y = z := by omega
      subst this; omega
  refine ⟨y, z, h1, hyz, rfl, ⟨h1, by omega, h3, fun q hq1 hq2 => a4 q hq1 (by omega)⟩, by rw [hy, ku.2], ⟨by omega, by omega, by omega, fun q hq1 hq2 => ?_⟩, by rw [hz, kd.2]⟩
  have := a4 q (by omega) (by omega)
  have : hgt (s.take q) ≠ hgt (s.take a) := h4 q (by omega) (by omega)
  omega

theorem den_open {s : List UInt8} (hs : Brs s) {utf : Bool} {M : Kn} {a x : Nat} : den s utf M (.mk 5 [40] [] 0 0 []) a x ↔ (x = a + 1 ∧ s[a]? = some 40) := by
  rw [den_one]
  refine and_congr_right fun _ => ⟨fun ⟨b, hb, he⟩ => ?_, fun hb => ⟨_, hb, rfl⟩⟩
  rcases brs_at hs hb with ⟨_, rfl⟩ | ⟨_, rfl⟩
  · exact hb
  · exact absurd he (by decide)

theorem den_shut {s : List UInt8} (hs : Brs s) {utf : Bool} {M : Kn} {a x : Nat} : den s utf M (.mk 5 [41] [] 0 0 []) a x ↔ (x = a + 1 ∧ s[a]? = some 41) := by
  rw [den_one]
  refine and_congr_right fun _ => ⟨fun ⟨b, hb, he⟩ => ?_, fun hb => ⟨_, hb, rfl⟩⟩
  rcases brs_at hs hb with ⟨_, rfl⟩ | ⟨_, rfl⟩
  · exact absurd he (by decide)
  · exact hb

theorem ruleBr1 : ruleOf [98] gram_br1 = some (.mk 3 [] [] 0 (-1) [(.mk 2 [] [] 0 0 [(.mk 5 [40] [] 0 0 []), (.mk 4 [98] [] 0 0 []), (.mk 5 [41] [] 0 0 [])])]) := rfl
theorem ruleBr2 : ruleOf [98] gram_br2 = some (.mk 1 [] [] 0 0 [(.mk 2 [] [] 0 0 [(.mk 4 [98] [] 0 0 []), (.mk 5 [40] [] 0 0 []), (.mk 4 [98] [] 0 0 []), (.mk 5 [41] [] 0 0 [])]), (.mk 5 [] [] 0 0 [])]) := rfl

theorem den_pair {s : List UInt8} (hs : Brs s) {utf : Bool} {M : Kn} {a x : Nat} : den s utf M (.mk 2 [] [] 0 0 [(.mk 5 [40] [] 0 0 []), (.mk 4 [98] [] 0 0 []), (.mk 5 [41] [] 0 0 [])]) a x ↔ ∃ z, s[a]? = some 40 ∧ M [98] (a + 1) z ∧ s[z]? = some 41 ∧ x = z + 1 := by
  rw [den_seq, all_cons, all_cons, all_cons, all_nil]
  constructor
  · rintro ⟨z, ⟨y, ⟨a', rfl, h1⟩, h2⟩, h3⟩
    rw [den_open hs] at h1
    rw [den_ref] at h2
    rw [den_shut hs] at h3
    obtain ⟨rfl, h1⟩ := h1
    exact ⟨z, h1, h2, h3.2, h3.1⟩
  · rintro ⟨z, h1, h2, h3, rfl⟩
    exact ⟨z, ⟨a + 1, ⟨a, rfl, (den_open hs).2 ⟨rfl, h1⟩⟩, den_ref.2 h2⟩, (den_shut hs).2 ⟨rfl, h3⟩⟩

theorem br1_sound {s : List UInt8} (hs : Brs s) {utf : Bool} {a p : Nat} (ha : a ≤ s.length) (h : Der gram_br1 s utf [98] a p) : Bal s a p := by
  refine h (fun nm a x => nm = [98] → a ≤ s.length → Bal s a x) ?_ rfl ha
  intro nm e a x hr hd h1 ha
  subst h1
  rw [ruleBr1] at hr
  simp only [Option.some.injEq] at hr
  subst hr
  rw [den_rep] at hd
  obtain ⟨n, k1, k2, hd⟩ := hd
  clear k1 k2
  revert x
  induction n with
  | zero => intro x hd; subst hd; exact bal_nil ha
  | succ n ih =>
    rintro x ⟨y, hy, hx⟩
    have hb := ih y hy
    rw [den_pair hs] at hx
    obtain ⟨z, h1, h2, h3, rfl⟩ := hx
    have hy1 : y < s.length := (List.getElem?_eq_some_iff.1 h1).1
    exact bal_join hb (bal_wrap h1 (h2 rfl (by omega)) h3)

theorem br1_complete {s : List UInt8} (hs : Brs s) {utf : Bool} : ∀ (k a p : Nat), p - a ≤ k → Bal s a p → ∃ n : Nat, pow (den s utf (Der gram_br1 s utf) (.mk 2 [] [] 0 0 [(.mk 5 [40] [] 0 0 []), (.mk 4 [98] [] 0 0 []), (.mk 5 [41] [] 0 0 [])])) n (fun y => y = a) p := by
  intro k
  induction k with
  | zero => intro a p hk hb; exact ⟨0, show p = a by have := hb.1; omega⟩
  | succ k ih =>
    intro a p hk hb
    rcases Nat.lt_or_ge a p with hap | hap
    · obtain ⟨y, z, h1, h2, rfl, h3, h4, h5, h6⟩ := bal_last hs hb hap
      obtain ⟨n, hn⟩ := ih a y (by omega) h3
      obtain ⟨m, hm⟩ := ih (y + 1) z (by omega) h5
      refine ⟨n + 1, y, hn, (den_pair hs).2 ⟨z, h4, ?_, h6, rfl⟩⟩
      exact der_closed _ _ _ _ ruleBr1 (den_rep.2 ⟨m, by omega, .inl rfl, hm⟩)
    · exact ⟨0, show p = a by have := hb.1; omega⟩

theorem br1_ends {s : List UInt8} (hs : Brs s) {utf : Bool} (p : Nat) : Der gram_br1 s utf [98] 0 p ↔ Bal s 0 p := by
  constructor
  · exact br1_sound hs (Nat.zero_le _)
  · intro h
    obtain ⟨n, hn⟩ := br1_complete hs (utf := utf) (p - 0) 0 p (Nat.le_refl _) h
    exact der_closed _ _ _ _ ruleBr1 (den_rep.2 ⟨n, by omega, .inl rfl, hn⟩)

theorem den_br2 {s : List UInt8} (hs : Brs s) {utf : Bool} {M : Kn} {a x : Nat} (ha : a ≤ s.length) : den s utf M (.mk 1 [] [] 0 0 [(.mk 2 [] [] 0 0 [(.mk 4 [98] [] 0 0 []), (.mk 5 [40] [] 0 0 []), (.mk 4 [98] [] 0 0 []), (.mk 5 [41] [] 0 0 [])]), (.mk 5 [] [] 0 0 [])]) a x ↔
    (x = a ∨ ∃ y z, M [98] a y ∧ s[y]? = some 40 ∧ M [98] (y + 1) z ∧ s[z]? = some 41 ∧ x = z + 1) := by
  rw [den_alt]
  constructor
  · rintro ⟨e, he, hd⟩
    simp only [List.mem_cons, List.not_mem_nil, or_false] at he
    rcases he with rfl | rfl
    · rw [den_seq, all_cons, all_cons, all_cons, all_cons, all_nil] at hd
      obtain ⟨z, ⟨y', ⟨y, ⟨a', rfl, h1⟩, h2⟩, h3⟩, h4⟩ := hd
      rw [den_ref] at h1 h3
      rw [den_open hs] at h2
      rw [den_shut hs] at h4
      obtain ⟨rfl, h2⟩ := h2
      exact .inr ⟨y, z, h1, h2, h3, h4.2, h4.1⟩
    · exact .inl ((den_empty ha).1 hd)
  · rintro (rfl | ⟨y, z, h1, h2, h3, h4, rfl⟩)
    · exact ⟨_, List.mem_cons_of_mem _ (List.mem_cons_self ..), (den_empty ha).2 rfl⟩
    · exact ⟨_, List.mem_cons_self .., den_seq.2 (all_cons.2 (all_cons.2 (all_cons.2 (all_cons.2 (all_nil.2 ⟨z, ⟨y + 1, ⟨y, ⟨a, rfl, den_ref.2 h1⟩, (den_open hs).2 ⟨rfl, h2⟩⟩, den_ref.2 h3⟩, (den_shut hs).2 ⟨rfl, h4⟩⟩)))))⟩

theorem br2_ends {s : List UInt8} (hs : Brs s) {utf : Bool} (p : Nat) : Der gram_br2 s utf [98] 0 p ↔ Bal s 0 p := by
  constructor
  · intro h
    refine h (fun nm a x => nm = [98] → a ≤ s.length → Bal s a x) ?_ rfl (Nat.zero_le _)
    intro nm e a x hr hd h1 ha
    subst h1
    rw [ruleBr2] at hr
    simp only [Option.some.injEq] at hr
    subst hr
    rw [den_br2 hs ha] at hd
    rcases hd with rfl | ⟨y, z, h1, h2, h3, h4, rfl⟩
    · exact bal_nil ha
    · have hy1 : y < s.length := (List.getElem?_eq_some_iff.1 h2).1
      exact bal_join (h1 rfl ha) (bal_wrap h2 (h3 rfl (by omega)) h4)
  · have key : ∀ (k a p : Nat), p - a ≤ k → Bal s a p → Der gram_br2 s utf [98] a p := by
      intro k
      induction k with
      | zero => intro a p hk hb; exact der_closed _ _ _ _ ruleBr2 ((den_br2 hs (by have := hb.1; have := hb.2.1; omega)).2 (.inl (by have := hb.1; omega)))
      | succ k ih =>
        intro a p hk hb
        have ha : a ≤ s.length := by have := hb.1; have := hb.2.1; omega
        rcases Nat.lt_or_ge a p with hap | hap
        · obtain ⟨y, z, h1, h2, rfl, h3, h4, h5, h6⟩ := bal_last hs hb hap
          exact der_closed _ _ _ _ ruleBr2 ((den_br2 hs ha).2 (.inr ⟨y, z, ih a y (by omega) h3, h4, ih (y + 1) z (by omega) h5, h6, rfl⟩))
        · exact der_closed _ _ _ _ ruleBr2 ((den_br2 hs ha).2 (.inl (by have := hb.1; omega)))
    exact key (p - 0) 0 p (Nat.le_refl _)

/-- The brackets of some bytes; where they are balanced. -/
def chB (b : UInt8) : UInt8 := if b.toNat % 2 = 0 then 40 else 41

def wantB (s : List UInt8) : Nat → List Nat
  | 0 => [0]
  | k + 1 => if hgt (s.take (k + 1)) = 0 then wantB s k ++ [k + 1] else wantB s k

theorem wantB_mem {s : List UInt8} : ∀ {k p : Nat}, p ∈ wantB s k ↔ (p ≤ k ∧ hgt (s.take p) = 0)
  | 0, p => by
    simp only [wantB, List.mem_cons, List.not_mem_nil, or_false]
    constructor
    · rintro rfl; exact ⟨Nat.le_refl _, rfl⟩
    · rintro ⟨h, _⟩; omega
  | k + 1, p => by
    unfold wantB
    by_cases e : hgt (s.take (k + 1)) = 0
    · rw [if_pos e, List.mem_append, wantB_mem]
      simp only [List.mem_cons, List.not_mem_nil, or_false]
      constructor
      · rintro (⟨h1, h2⟩ | rfl)
        · exact ⟨by omega, h2⟩
        · exact ⟨Nat.le_refl _, e⟩
      · rintro ⟨h1, h2⟩
        rcases Nat.lt_or_ge p (k + 1) with h | h
        · exact .inl ⟨by omega, h2⟩
        · exact .inr (by omega)
    · rw [if_neg e, wantB_mem]
      constructor
      · rintro ⟨h1, h2⟩; exact ⟨by omega, h2⟩
      · rintro ⟨h1, h2⟩
        rcases Nat.lt_or_ge p (k + 1) with h | h
        · exact ⟨by omega, h2⟩
        · exact absurd (by rw [show k + 1 = p by omega]; exact h2) e

theorem wantB_sorted {s : List UInt8} : ∀ k, (wantB s k).Pairwise (· < ·)
  | 0 => by simp [wantB]
  | k + 1 => by
    unfold wantB
    split
    · refine List.pairwise_append.2 ⟨wantB_sorted k, by simp, fun a ha b hb => ?_⟩
      simp only [List.mem_cons, List.not_mem_nil, or_false] at hb
      have := (wantB_mem.1 ha).1
      omega
    · exact wantB_sorted k

theorem wantB_take {s t : List UInt8} : ∀ {k : Nat}, (∀ p, p ≤ k → hgt (s.take p) = hgt (t.take p)) → wantB s k = wantB t k
  | 0, _ => rfl
  | k + 1, h => by unfold wantB; rw [h (k + 1) (Nat.le_refl _), wantB_take fun p hp => h p (by omega)]

/-- The list of the ends, where no bracket but the last shuts one that is not open. -/
theorem bal_list {g : List Ru} {s : List UInt8} {utf : Bool} {l : List Int} (h : EndsAre g s [98] utf l) (hd : ∀ p, Der g s utf [98] 0 p ↔ Bal s 0 p) (hp : ∀ q, q < s.length → 0 ≤ hgt (s.take q)) : l = (wantB s s.length).map fun (p : Nat) => (p : Int) := by
  refine endsAre_eq h _ (wantB_sorted _) fun p => ?_
  rw [hd, wantB_mem]
  constructor
  · rintro ⟨_, h2, h3, _⟩
    exact ⟨h2, h3⟩
  · rintro ⟨h2, h3⟩
    refine ⟨Nat.zero_le _, h2, h3, fun q _ hq => ?_⟩
    show (0 : Int) ≤ _
    rcases Nat.lt_or_ge q s.length with h | h
    · exact hp q h
    · rw [show q = p by omega, h3]; exact Int.le_refl _

end Go.Proofs.Ytdpielghjaehbaa.Ev
