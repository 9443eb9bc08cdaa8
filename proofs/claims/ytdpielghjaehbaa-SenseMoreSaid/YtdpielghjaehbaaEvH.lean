/- The evaluator is sound: regions that draw their order. Part 1: what the records say. -/
import Derived.Test.YtdpielghjaehbaaEvG
set_option linter.unusedSectionVars false
set_option linter.unusedSimpArgs false
set_option linter.unusedVariables false
namespace Go.Proofs.Ytdpielghjaehbaa.Ev
open Go.RowKit

section
variable {P : Program} {E : Env} {B0 : Nat} {B : List Seg} {call : CallF} {ops : List Oper} {bits : List Nat} {hs : List (List Nat)} {s : Slots}

/-- What the k-th record says, of the records before it ('rs', newest first). -/
structure RecOk (E : Env) (call : CallF) (ops : List Oper) (bits : List Nat) (hs : List (List Nat)) (B : List Seg) (s : Slots) (o : Oper) (k : Nat) (rs : List Rec) (n : Nat) (r : Rec) : Prop where
  dst : r.dst = o.dst
  lo : r.lo = n
  mono : n ≤ r.hi
  goes : (evWanted (slotsAt s bits rs k) ops o = some false ∧ r.v = .c .undef ∧ r.δ = [] ∧ r.hi = n) ∨
    (evWanted (slotsAt s bits rs k) ops o = some true ∧ evOp E call (slotsAt s bits rs k) o (heapAt bits hs B rs k) [] n = some (r.v, r.δ, r.hi))

theorem drawGo_recs : ∀ (l : List Oper) (k : Nat) (rs : List Rec) (n : Nat) (rs' : List Rec) (n' : Nat), evDrawGo E call ops bits hs B s l k rs n = some (rs', n') →
    ∃ new : List Rec, rs' = new.reverse ++ rs ∧ new.length = l.length ∧ (∀ j o r, l[j]? = some o → new[j]? = some r → RecOk E call ops bits hs B s o (k + j) ((new.take j).reverse ++ rs) (match j with | 0 => n | j + 1 => (new[j]?.map Rec.hi).getD 0) r) ∧
      n' = (new.getLast?.map Rec.hi).getD n
  | [], k, rs, n, rs', n', h => by
    simp only [evDrawGo, Option.some.injEq, Prod.mk.injEq] at h
    obtain ⟨rfl, rfl⟩ := h
    exact ⟨[], rfl, rfl, fun j o r ho => by simp at ho, rfl⟩
  | o :: l, k, rs, n, rs', n', h => by
    have key : ∃ r, RecOk E call ops bits hs B s o k rs n r ∧ evDrawGo E call ops bits hs B s l (k + 1) (r :: rs) r.hi = some (rs', n') := by
      simp only [evDrawGo] at h
      split at h
      · cases h
      · rename_i hw
        exact ⟨⟨.c .undef, [], n, n, o.dst⟩, ⟨rfl, rfl, Nat.le_refl _, .inl ⟨hw, rfl, rfl, rfl⟩⟩, h⟩
      · rename_i hw
        split at h
        · rename_i v δ n1 hop
          split at h
          · rename_i hle
            exact ⟨⟨v, δ, n, n1, o.dst⟩, ⟨rfl, rfl, hle, .inr ⟨hw, hop⟩⟩, h⟩
          · cases h
        · cases h
    obtain ⟨r, hr, hrest⟩ := key
    obtain ⟨new, e1, e2, e3, e4⟩ := drawGo_recs l (k + 1) (r :: rs) r.hi rs' n' hrest
    refine ⟨r :: new, by simp [e1], by simp [e2], fun j o' r' ho' hr' => ?_, ?_⟩
    · cases j with
      | zero =>
        simp only [List.getElem?_cons_zero, Option.some.injEq] at ho' hr'
        subst ho'; subst hr'
        simpa using hr
      | succ j =>
        simp only [List.getElem?_cons_succ] at ho' hr'
        have := e3 j o' r' ho' hr'
        have hk : k + 1 + j = k + (j + 1) := by omega
        rw [hk] at this
        have ht : ((r :: new).take (j + 1)).reverse ++ rs = (new.take j).reverse ++ r :: rs := by simp
        rw [ht]
        cases j with
        | zero => simpa using this
        | succ j => simpa using this
    · rw [e4]
      cases new with
      | nil => simp
      | cons x xs =>
        rw [List.getLast?_cons_cons, List.getLast?_eq_some_getLast (List.cons_ne_nil x xs)]
        rfl

/-! Looking into a heap of records. 'R' the records in order. -/

/-- The newest record below k that 'p' names and that speaks of x. -/
def newest (R : List Rec) (x : Nat) (p : Nat → Bool) : Nat → Option (Nat × Option AObj)
  | 0 => none
  | k + 1 => match R[k]? with
    | some r => if p k then (match look r.δ x with
      | some o => some (k, o)
      | none => newest R x p k) else newest R x p k
    | none => newest R x p k

theorem newest_some {R : List Rec} {x : Nat} {p : Nat → Bool} : ∀ {k j : Nat} {o : Option AObj}, newest R x p k = some (j, o) → j < k ∧ p j = true ∧ (∃ r, R[j]? = some r ∧ look r.δ x = some o) ∧ ∀ i r, j < i → i < k → p i = true → R[i]? = some r → look r.δ x = none
  | 0, j, o, h => by simp [newest] at h
  | k + 1, j, o, h => by
    have rest : newest R x p k = some (j, o) → (∀ r, p k = true → R[k]? = some r → look r.δ x = none) → j < k + 1 ∧ p j = true ∧ (∃ r, R[j]? = some r ∧ look r.δ x = some o) ∧ ∀ i r, j < i → i < k + 1 → p i = true → R[i]? = some r → look r.δ x = none := by
      intro h1 h2
      obtain ⟨a, b, c, d⟩ := newest_some h1
      refine ⟨by omega, b, c, fun i r hi hik hp hr => ?_⟩
      by_cases e : i = k
      · subst e; exact h2 r hp hr
      · exact d i r hi (by omega) hp hr
    simp only [newest] at h
    split at h
    · rename_i r hr
      split at h
      · rename_i hp
        split at h
        · rename_i o' ho
          simp only [Option.some.injEq, Prod.mk.injEq] at h
          obtain ⟨rfl, rfl⟩ := h
          exact ⟨by omega, hp, ⟨r, hr, ho⟩, fun i r' hi hik => by omega⟩
        · rename_i ho
          exact rest h (fun r' _ hr' => by rw [hr] at hr'; simp only [Option.some.injEq] at hr'; subst hr'; exact ho)
      · rename_i hp
        exact rest h (fun r' hp' _ => absurd hp' hp)
    · rename_i hr
      exact rest h (fun r' _ hr' => by rw [hr] at hr'; cases hr')

theorem newest_none {R : List Rec} {x : Nat} {p : Nat → Bool} : ∀ {k : Nat}, newest R x p k = none → ∀ i r, i < k → p i = true → R[i]? = some r → look r.δ x = none
  | 0, h, i, r, hi => by omega
  | k + 1, h, i, r, hi => by
    intro hp hr
    simp only [newest] at h
    by_cases e : i = k
    · subst e
      rw [hr] at h
      simp only [hp, if_true] at h
      split at h
      · cases h
      · rename_i ho; exact ho
    · split at h
      · split at h
        · split at h
          · cases h
          · exact newest_none h i r (by omega) hp hr
        · exact newest_none h i r (by omega) hp hr
      · exact newest_none h i r (by omega) hp hr

theorem newest_of {R : List Rec} {x : Nat} {p : Nat → Bool} {k j : Nat} {r : Rec} {o : Option AObj} (hj : j < k) (hp : p j = true) (hr : R[j]? = some r) (ho : look r.δ x = some o)
    (hn : ∀ i r, j < i → i < k → p i = true → R[i]? = some r → look r.δ x = none) : newest R x p k = some (j, o) := by
  cases h : newest R x p k with
  | none => rw [newest_none h j r hj hp hr] at ho; cases ho
  | some y =>
    obtain ⟨i, o'⟩ := y
    obtain ⟨a, b, ⟨r', hr', ho'⟩, d⟩ := newest_some h
    rcases Nat.lt_trichotomy i j with hl | hl | hl
    · rw [d j r hl hj hp hr] at ho; cases ho
    · subst hl
      rw [hr] at hr'
      simp only [Option.some.injEq] at hr'; subst hr'
      rw [ho] at ho'
      simp only [Option.some.injEq] at ho'; subst ho'
      rfl
    · rw [hn i r' hl a b hr'] at ho'; cases ho'

/-- The heap of the records that 'p' names. -/
def sel (p : Nat → Bool) : List Rec → Nat → List Seg
  | [], _ => []
  | r :: rs, k => (if p (k - 1) then r.δ else []) :: sel p rs (k - 1)

theorem take_succ_rev (R : List Rec) (k : Nat) (hk : k < R.length) : (R.take (k + 1)).reverse = R[k] :: (R.take k).reverse := by
  rw [List.take_succ_eq_append_getElem hk, List.reverse_append]
  rfl

theorem get_sel (R : List Rec) (p : Nat → Bool) (B : List Seg) (x : Nat) : ∀ k, k ≤ R.length → get (sel p (R.take k).reverse k ++ B) x = match newest R x p k with | some (_, o) => o | none => get B x
  | 0, _ => by simp [sel, newest]
  | k + 1, hk => by
    rw [take_succ_rev R k (by omega)]
    simp only [sel, List.cons_append, get, Nat.add_sub_cancel, newest, List.getElem?_eq_getElem (show k < R.length by omega)]
    have ih := get_sel R p B x k (by omega)
    by_cases hp : p k = true
    · simp only [hp, if_true]
      cases look R[k].δ x with
      | some o => rfl
      | none => exact ih
    · simp only [hp, Bool.false_eq_true, if_false, look]
      exact ih

theorem look_tomb (δ : Seg) (x : Nat) : look (tomb δ) x = (look δ x).map fun _ => none := by
  induction δ with
  | nil => rfl
  | cons q r ih =>
    obtain ⟨j, o⟩ := q
    simp only [tomb, List.map_cons, look] at ih ⊢
    by_cases h : j == x
    · simp [h]
    · simp only [h, Bool.false_eq_true, if_false]; exact ih

theorem get_seen (R : List Rec) (p : Nat → Bool) (B : List Seg) (x : Nat) : ∀ k, k ≤ R.length → get (seen p (R.take k).reverse k ++ B) x = match newest R x (fun _ => true) k with | some (j, o) => if p j then o else none | none => get B x
  | 0, _ => by simp [seen, newest]
  | k + 1, hk => by
    rw [take_succ_rev R k (by omega)]
    simp only [seen, List.cons_append, get, Nat.add_sub_cancel, newest, List.getElem?_eq_getElem (show k < R.length by omega), if_true]
    have ih := get_seen R p B x k (by omega)
    by_cases hp : p k = true
    · simp only [hp, if_true]
      cases hl : look R[k].δ x with
      | some o => simp [hp]
      | none => exact ih
    · simp only [hp, Bool.false_eq_true, if_false, look_tomb]
      cases hl : look R[k].δ x with
      | some o => simp [hp]
      | none => exact ih

/-! Slots. -/

/-- The newest record below k that 'p' names and that writes slot t. -/
def newestW (nt : Nat) (R : List Rec) (t : Nat) (p : Nat → Bool) : Nat → Option (Nat × AV)
  | 0 => none
  | k + 1 => match R[k]? with
    | some r => if p k = true ∧ r.dst = some t ∧ t < nt then some (k, r.v) else newestW nt R t p k
    | none => newestW nt R t p k

theorem sfind_append (a b : List (Nat × AV)) (t : Nat) (h : ∀ x ∈ a, x.1 ≠ t) : sfind (a ++ b) t = sfind b t := by
  induction a with
  | nil => rfl
  | cons q r ih =>
    obtain ⟨j, v⟩ := q
    rw [List.cons_append, sfind_cons, if_neg (h (j, v) (by simp)), ih (fun x hx => h x (by simp [hx]))]

theorem sfind_wrs (nt : Nat) (R : List Rec) (p : Nat → Bool) (l : List (Nat × AV)) (t : Nat) : ∀ k, k ≤ R.length → sfind (wrs nt p (R.take k).reverse k ++ l) t = match newestW nt R t p k with | some (_, v) => v | none => sfind l t
  | 0, _ => by simp [wrs, newestW]
  | k + 1, hk => by
    rw [take_succ_rev R k (by omega)]
    have ih := sfind_wrs nt R p l t k (by omega)
    simp only [wrs, Nat.add_sub_cancel, newestW, List.getElem?_eq_getElem (show k < R.length by omega)]
    cases hd : R[k].dst with
    | none =>
      simp only
      rw [ih]
      rw [if_neg (by simp)]
    | some t' =>
      simp only
      by_cases hp : p k = true
      · by_cases ht : t' < nt
        · simp only [hp, ht, decide_true, Bool.and_self, if_true, List.cons_append, sfind_cons]
          by_cases e : t' = t
          · subst e; simp [ht]
          · rw [if_neg e, if_neg (by simp [e]), ih]
        · simp only [hp, ht, decide_false, Bool.and_false, Bool.false_eq_true, if_false]
          rw [ih, if_neg (by rintro ⟨_, h2, h3⟩; simp only [Option.some.injEq] at h2; omega)]
      · simp only [hp, Bool.false_and, Bool.false_eq_true, if_false]
        rw [ih, if_neg (by simp)]

theorem newestW_some {nt : Nat} {R : List Rec} {t : Nat} {p : Nat → Bool} : ∀ {k j : Nat} {v : AV}, newestW nt R t p k = some (j, v) → j < k ∧ p j = true ∧ t < nt ∧ (∃ r, R[j]? = some r ∧ r.dst = some t ∧ r.v = v) ∧ ∀ i r, j < i → i < k → p i = true → R[i]? = some r → r.dst ≠ some t
  | 0, j, v, h => by simp [newestW] at h
  | k + 1, j, v, h => by
    simp only [newestW] at h
    have rest : newestW nt R t p k = some (j, v) → (∀ r, p k = true → R[k]? = some r → t < nt → r.dst ≠ some t) → j < k + 1 ∧ p j = true ∧ t < nt ∧ (∃ r, R[j]? = some r ∧ r.dst = some t ∧ r.v = v) ∧ ∀ i r, j < i → i < k + 1 → p i = true → R[i]? = some r → r.dst ≠ some t := by
      intro h1 h2
      obtain ⟨a, b, b', c, d⟩ := newestW_some h1
      refine ⟨by omega, b, b', c, fun i r hi hik hp hr => ?_⟩
      by_cases e : i = k
      · subst e; exact h2 r hp hr b'
      · exact d i r hi (by omega) hp hr
    split at h
    · rename_i r hr
      split at h
      · rename_i hc
        simp only [Option.some.injEq, Prod.mk.injEq] at h
        obtain ⟨rfl, rfl⟩ := h
        exact ⟨by omega, hc.1, hc.2.2, ⟨r, hr, hc.2.1, rfl⟩, fun i r' hi hik => by omega⟩
      · rename_i hc
        exact rest h (fun r' hp hr' ht e => by rw [hr] at hr'; simp only [Option.some.injEq] at hr'; subst hr'; exact hc ⟨hp, e, ht⟩)
    · rename_i hr
      exact rest h (fun r' _ hr' => by rw [hr] at hr'; cases hr')

theorem newestW_none {nt : Nat} {R : List Rec} {t : Nat} {p : Nat → Bool} (ht : t < nt) : ∀ {k : Nat}, newestW nt R t p k = none → ∀ i r, i < k → p i = true → R[i]? = some r → r.dst ≠ some t
  | 0, h, i, r, hi => by omega
  | k + 1, h, i, r, hi => by
    intro hp hr hd
    simp only [newestW] at h
    by_cases e : i = k
    · subst e
      rw [hr] at h
      simp only at h
      rw [if_pos ⟨hp, hd, ht⟩] at h
      cases h
    · split at h
      · split at h
        · cases h
        · exact newestW_none ht h i r (by omega) hp hr hd
      · exact newestW_none ht h i r (by omega) hp hr hd

theorem newestW_big {nt : Nat} {R : List Rec} {t : Nat} {p : Nat → Bool} (ht : ¬ t < nt) : ∀ k : Nat, newestW nt R t p k = none
  | 0 => rfl
  | k + 1 => by
    simp only [newestW]
    split
    · rw [if_neg (fun h => ht h.2.2)]; exact newestW_big ht k
    · exact newestW_big ht k

theorem newestW_of {nt : Nat} {R : List Rec} {t : Nat} {p : Nat → Bool} {k j : Nat} {r : Rec} (ht : t < nt) (hj : j < k) (hp : p j = true) (hr : R[j]? = some r) (hd : r.dst = some t)
    (hn : ∀ i r, j < i → i < k → p i = true → R[i]? = some r → r.dst ≠ some t) : newestW nt R t p k = some (j, r.v) := by
  cases h : newestW nt R t p k with
  | none => exact absurd hd (newestW_none ht h j r hj hp hr)
  | some y =>
    obtain ⟨i, v⟩ := y
    obtain ⟨a, b, _, ⟨r', hr', hd', hv'⟩, d⟩ := newestW_some h
    rcases Nat.lt_trichotomy i j with hl | hl | hl
    · exact absurd hd (d j r hl hj hp hr)
    · subst hl
      rw [hr] at hr'
      simp only [Option.some.injEq] at hr'; subst hr'
      rw [hv']
    · exact absurd hd' (hn i r' hl a b hr')

end
end Go.Proofs.Ytdpielghjaehbaa.Ev

/- The evaluator is sound: regions that draw their order. Part 2: whatever order is drawn. -/
set_option linter.unusedSectionVars false
set_option linter.unusedSimpArgs false
set_option linter.unusedVariables false
namespace Go.Proofs.Ytdpielghjaehbaa.Ev
open Go.RowKit

def loOf (R : List Rec) (n : Nat) : Nat → Nat
  | 0 => n
  | k + 1 => (R[k]?.map Rec.hi).getD 0

/-- A region, its records, and what was checked of them. 'C': the heap ahead of it. -/
structure Reg (E : Env) (call : CallF) (ops : Array Oper) (bits : List Nat) (hs : List (List Nat)) (C : List Seg) (s : Slots) (R : List Rec) (n nm : Nat) : Prop where
  len : R.length = ops.size
  recs : ∀ (k : Nat) (o : Oper) (r : Rec), ops[k]? = some o → R[k]? = some r → RecOk E call ops.toList bits hs C s o k (R.take k).reverse (loOf R n k) r
  top : nm = loOf R n R.length
  later : ∀ (i j : Nat) (ri rj : Rec) (x : Nat), i < j → R[i]? = some ri → R[j]? = some rj → bitOf bits j i = false → In rj.δ x → x < ri.lo → x ∈ hs.getD i []
  edges : ∀ (k : Nat) (o : Oper), ops[k]? = some o → ∀ e ∈ o.after, Region.binds .any e = true → e.on < k
  bitsE : ∀ (k : Nat) (o : Oper), ops[k]? = some o → ∀ x, bitOf bits k x = true → x < k ∧ ∃ e ∈ o.after, Region.binds .any e = true ∧ (e.on = x ∨ bitOf bits e.on x = true)
  pairs : ∀ (i k : Nat) (p o : Oper), i < k → ops[i]? = some p → ops[k]? = some o → bitOf bits k i = true ∨ p.apart ops o = true

section
variable {P : Program} {E : Env} {B0 : Nat} {call : CallF} {ops : Array Oper} {bits : List Nat} {hs : List (List Nat)} {C : List Seg} {s : Slots} {R : List Rec} {n nm : Nat}

theorem Reg.get (G : Reg E call ops bits hs C s R n nm) {k : Nat} {r : Rec} (hr : R[k]? = some r) : ∃ o, ops[k]? = some o := by
  have : k < R.length := (List.getElem?_eq_some_iff.1 hr).1
  rw [G.len] at this
  exact ⟨_, Array.getElem?_eq_getElem this⟩

theorem Reg.recAt (G : Reg E call ops bits hs C s R n nm) {k : Nat} (hk : k < ops.size) : ∃ r, R[k]? = some r := ⟨_, List.getElem?_eq_getElem (by rw [G.len]; exact hk)⟩

theorem Reg.lo (G : Reg E call ops bits hs C s R n nm) {k : Nat} {r : Rec} (hr : R[k]? = some r) : r.lo = loOf R n k ∧ r.lo ≤ r.hi ∧ r.hi = loOf R n (k + 1) := by
  obtain ⟨o, ho⟩ := G.get hr
  have h := G.recs k o r ho hr
  exact ⟨h.lo, by rw [h.lo]; exact h.mono, by simp [loOf, hr]⟩

theorem Reg.lo_le (G : Reg E call ops bits hs C s R n nm) : ∀ (j i : Nat), i ≤ j → j ≤ R.length → loOf R n i ≤ loOf R n j
  | 0, i, h, _ => by have : i = 0 := by omega
                     subst this; exact Nat.le_refl _
  | j + 1, i, h, hj => by
    by_cases e : i = j + 1
    · subst e; exact Nat.le_refl _
    · have := G.lo_le j i (by omega) (by omega)
      obtain ⟨r, hr⟩ : ∃ r, R[j]? = some r := ⟨_, List.getElem?_eq_getElem (by omega)⟩
      obtain ⟨h1, h2, h3⟩ := G.lo hr
      omega

theorem Reg.chain (G : Reg E call ops bits hs C s R n nm) {i j : Nat} {ri rj : Rec} (hi : R[i]? = some ri) (hj : R[j]? = some rj) (h : i < j) : ri.hi ≤ rj.lo := by
  obtain ⟨h1, h2, h3⟩ := G.lo hi
  obtain ⟨g1, g2, g3⟩ := G.lo hj
  have hl := (List.getElem?_eq_some_iff.1 hj).1
  have := G.lo_le j (i + 1) h (by omega)
  omega

theorem Reg.lo_n (G : Reg E call ops bits hs C s R n nm) {i : Nat} {r : Rec} (hr : R[i]? = some r) : n ≤ r.lo ∧ r.hi ≤ nm := by
  obtain ⟨h1, h2, h3⟩ := G.lo hr
  have hl := (List.getElem?_eq_some_iff.1 hr).1
  have a := G.lo_le i 0 (by omega) (by omega)
  have b := G.lo_le R.length (i + 1) (by omega) (by omega)
  have c := G.top
  simp only [loOf] at a
  constructor
  · rw [h1]; exact a
  · rw [h3, c]; exact b

/-- What may be named once the operations in D are done. -/
def alD (al : Nat → Prop) (R : List Rec) (D : Nat → Bool) (x : Nat) : Prop := al x ∨ ∃ j r, R[j]? = some r ∧ D j = true ∧ r.lo ≤ x ∧ x < r.hi

def TD (R : List Rec) (D : Nat → Bool) (x : Nat) : Prop := ∃ j r, R[j]? = some r ∧ D j = true ∧ In r.δ x

def HD (C : List Seg) (R : List Rec) (D : Nat → Bool) : List Seg := sel D R.reverse R.length ++ C

def sD (s : Slots) (R : List Rec) (D : Nat → Bool) : Slots := ⟨s.nt, wrs s.nt D R.reverse R.length ++ s.l⟩

theorem get_HD (C : List Seg) (R : List Rec) (D : Nat → Bool) (x : Nat) : get (HD C R D) x = match newest R x D R.length with | some (_, o) => o | none => get C x := by
  have := get_sel R D C x R.length (Nat.le_refl _)
  rwa [List.take_length] at this

theorem get_sD (s : Slots) (R : List Rec) (D : Nat → Bool) (t : Nat) : (sD s R D).get t = match newestW s.nt R t D R.length with | some (_, v) => v | none => s.get t := by
  have := sfind_wrs s.nt R D s.l t R.length (Nat.le_refl _)
  rwa [List.take_length] at this

/-- The operations in D are done: the world is what they made of the first one. -/
structure Inv (E : Env) (B0 : Nat) (bits : List Nat) (hs : List (List Nat)) (C : List Seg) (s : Slots) (R : List Rec) (n nm : Nat) (al : Nat → Prop) (ρ0 : Rho) (w0 : World) (df : List Deferred) (D : Nat → Bool) (ρ : Rho) (a : Act) (w : World) : Prop where
  rep : Rep E B0 ⟨HD C R D, alD al R D, nm, ρ, w⟩
  ssz : a.tmps.size = s.nt
  sat : ∀ t, a.tmps.getD t Go.undef = concV ρ ((sD s R D).get t)
  df : a.defers = df
  vok : ∀ j r, R[j]? = some r → D j = true → r.v.ok (fun x => alD al R D x ∧ x < r.hi)
  cok : ∀ j r x o, R[j]? = some r → D j = true → look r.δ x = some (some o) → o.ok (fun y => y < r.hi)
  idl : ∀ j r x, R[j]? = some r → D j = true → In r.δ x → x < r.hi ∧ (x < r.lo → ∃ o, get (heapAt bits hs C (R.take j).reverse j) x = some o)
  agree : ∀ x, x < n ∨ nm ≤ x → ρ x = ρ0 x
  live : ∀ x, TD R D x → x < n → ∃ o, get C x = some o
  size : w0.heap.size ≤ w.heap.size
  frame : ∀ b, b < w0.heap.size → (∀ x, TD R D x → x < n → (ρ0 x).1 ≠ b) → w.heap[b]? = w0.heap[b]?
  newb : ∀ x o, n ≤ x → get (HD C R D) x = some o → w0.heap.size ≤ (ρ x).1 ∨ ∃ j, TD R D j ∧ j < n ∧ (ρ x).1 = (ρ0 j).1
  misc : w.os = w0.os ∧ w.tape = w0.tape ∧ w.output = w0.output

variable {al : Nat → Prop} {ρ0 ρ : Rho} {w0 w : World} {df : List Deferred} {D : Nat → Bool} {a : Act}

/-- Operation i can come up in D. -/
structure CanCome (bits : List Nat) (D : Nat → Bool) (i : Nat) : Prop where
  un : D i = false
  deps : ∀ j, bitOf bits i j = true → D j = true
  closed : ∀ j k, D k = true → bitOf bits k j = true → D j = true

theorem newest_p (R : List Rec) (x : Nat) (p q : Nat → Bool) (k : Nat) (h : ∀ j r, j < k → R[j]? = some r → In r.δ x → p j = q j) : newest R x p k = newest R x q k := by
  induction k with
  | zero => rfl
  | succ k ih =>
    have ih' := ih (fun j r hj hr hx => h j r (by omega) hr hx)
    simp only [newest]
    split
    · rename_i r hr
      cases hl : look r.δ x with
      | none => simp [ih']
      | some o =>
        have := h k r (by omega) hr ⟨o, hl⟩
        simp [this, ih']
    · exact ih'

/-- What operation i sees is there in D. -/
theorem sees (G : Reg E call ops bits hs C s R n nm) (I : Inv E B0 bits hs C s R n nm al ρ0 w0 df D ρ a w) (hal : ∀ x o, get C x = some o → x < n ∧ o.ok (fun y => y < n)) {i : Nat} {r : Rec} (hr : R[i]? = some r) (hc : CanCome bits D i)
    {x : Nat} {o : AObj} (hx : get (heapAt bits hs C (R.take i).reverse i) x = some o) : get (HD C R D) x = some o ∧ x < r.lo ∧ o.ok (fun y => y < r.lo) ∧ (get C x = some o ∨ ∃ j rj, R[j]? = some rj ∧ D j = true ∧ In rj.δ x) := by
  have hil := (List.getElem?_eq_some_iff.1 hr).1
  have hts : x ∉ hs.getD i [] := by
    intro hm
    have : look ((hs.getD i []).map fun i => (i, (none : Option AObj))) x = some none := by
      revert hm
      generalize hs.getD i [] = l
      intro hm
      induction l with
      | nil => cases hm
      | cons y l ih =>
        simp only [List.map_cons, look]
        by_cases e : y = x
        · simp [e]
        · have : ¬ (y == x) = true := by simpa using e
          rw [if_neg this]
          exact ih ((List.mem_cons.1 hm).resolve_left (fun h => e h.symm))
    simp only [heapAt, get, this] at hx
    cases hx
  have hg : get (seen (bitOf bits i) (R.take i).reverse i ++ C) x = some o := by
    simp only [heapAt, get] at hx
    split at hx
    · rename_i o' ho
      exfalso
      revert ho hts
      generalize hs.getD i [] = l
      intro hts ho
      induction l with
      | nil => simp [look] at ho
      | cons y l ih =>
        simp only [List.map_cons, look] at ho
        by_cases e : y = x
        · exact hts (by simp [e])
        · have : ¬ (y == x) = true := by simpa using e
          rw [if_neg this] at ho
          exact ih (fun h => hts (by simp [h])) ho
    · exact hx
  rw [get_seen R _ C x i (by omega)] at hg
  -- no later operation that is done speaks of x
  have nolater : x < r.lo → ∀ j rj, i ≤ j → j < R.length → D j = true → R[j]? = some rj → look rj.δ x = none := by
    intro hlo j rj hij hjl hD hj
    cases hl : look rj.δ x with
    | none => rfl
    | some o' =>
      exfalso
      have hne : i ≠ j := fun e => by subst e; rw [hc.un] at hD; cases hD
      have hb : bitOf bits j i = false := by
        cases hb : bitOf bits j i with
        | false => rfl
        | true => have := hc.closed i j hD hb; rw [hc.un] at this; cases this
      exact hts (G.later i j r rj x (by omega) hr hj hb ⟨o', hl⟩ hlo)
  cases hn : newest R x (fun _ => true) i with
  | none =>
    rw [hn] at hg
    simp only at hg
    have hlo : x < r.lo := Nat.lt_of_lt_of_le (hal x o hg).1 (G.lo_n hr).1
    have hnn := newest_none hn
    refine ⟨?_, hlo, AObj.ok_mono (fun y hy => Nat.lt_of_lt_of_le hy (G.lo_n hr).1) (hal x o hg).2, .inl hg⟩
    · rw [get_HD]
      have : newest R x D R.length = none := by
        cases hm : newest R x D R.length with
        | none => rfl
        | some y =>
          obtain ⟨j, o'⟩ := y
          obtain ⟨h1, h2, ⟨rj, h3, h4⟩, _⟩ := newest_some hm
          by_cases hji : j < i
          · rw [hnn j rj hji rfl h3] at h4; cases h4
          · rw [nolater hlo j rj (by omega) h1 h2 h3] at h4; cases h4
      rw [this]; exact hg
  | some y =>
    obtain ⟨j, o'⟩ := y
    rw [hn] at hg
    simp only at hg
    split at hg
    · rename_i hb
      subst hg
      obtain ⟨h1, _, ⟨rj, h3, h4⟩, h5⟩ := newest_some hn
      have hD := hc.deps j hb
      have hhi := (I.idl j rj x h3 hD ⟨_, h4⟩).1
      have hlo : x < r.lo := Nat.lt_of_lt_of_le hhi (G.chain h3 hr h1)
      refine ⟨?_, hlo, AObj.ok_mono (fun y hy => Nat.lt_of_lt_of_le hy (G.chain h3 hr h1)) (I.cok j rj x o h3 hD h4), .inr ⟨j, rj, h3, hD, _, h4⟩⟩
      · rw [get_HD]
        have : newest R x D R.length = some (j, some o) := by
          refine newest_of (by omega) hD h3 h4 fun k rk hk1 hk2 hk3 hk4 => ?_
          by_cases hki : k < i
          · exact h5 k rk hk1 hki rfl hk4
          · exact nolater hlo k rk (by omega) hk2 hk3 hk4
        rw [this]
    · cases hg

theorem AC.ok_and {p q : Nat → Prop} : ∀ {c : AC}, c.ok p → c.ok q → c.ok (fun y => p y ∧ q y)
  | .undef, _, _ | .bool _, _, _ | .int .., _, _ | .str _, _, _ | .sl0, _, _ | .mnil, _, _ | .raw _, _, _ => trivial
  | .ptr i _, h, k => ⟨h, k⟩
  | .sl i _, h, k => ⟨h, k⟩
  | .mref i, h, k => ⟨h, k⟩
  | .clo _ i, h, k => ⟨h, k⟩

theorem AObj.ok_and {p q : Nat → Prop} {o : AObj} (h : o.ok p) (k : o.ok q) : o.ok (fun y => p y ∧ q y) := by
  cases o with
  | cells e l => exact fun x hx => AC.ok_and (h x hx) (k x hx)
  | pm ks c => trivial
  | km es c => exact fun e he => ⟨h e he, k e he⟩
  | mit m a b c => exact ⟨h, k⟩
  | sit a b => trivial

theorem AV.ok_and {p q : Nat → Prop} {v : AV} (h : v.ok p) (k : v.ok q) : v.ok (fun y => p y ∧ q y) := by
  cases v with
  | c x => exact AC.ok_and h k
  | agg l => exact fun x hx => AC.ok_and (h x hx) (k x hx)
  | tup l => exact fun x hx => AC.ok_and (h x hx) (k x hx)

/-- What operation i sees, as a heap. -/
theorem rep_at (G : Reg E call ops bits hs C s R n nm) (I : Inv E B0 bits hs C s R n nm al ρ0 w0 df D ρ a w) (hal : ∀ x o, get C x = some o → x < n ∧ o.ok (fun y => y < n)) {i : Nat} {r : Rec} (hr : R[i]? = some r) (hc : CanCome bits D i) :
    Rep E B0 ⟨[] :: heapAt bits hs C (R.take i).reverse i, fun y => alD al R D y ∧ y < r.lo, r.lo, ρ, w⟩ := by
  have key : ∀ x o, get ([] :: heapAt bits hs C (R.take i).reverse i) x = some o → get (HD C R D) x = some o ∧ x < r.lo ∧ o.ok (fun y => y < r.lo) := fun x o hx => by
    simp only [Go.Proofs.Ytdpielghjaehbaa.Ev.get, look] at hx
    obtain ⟨h1, h2, h3, _⟩ := sees G I hal hr hc hx
    exact ⟨h1, h2, h3⟩
  exact { obj := fun x o hx => I.rep.obj x o (key x o hx).1, lo := fun x o hx => I.rep.lo x o (key x o hx).1,
          inj := fun x y o p hx hy => I.rep.inj x y o p (key x o hx).1 (key y p hy).1,
          al := fun x o hx => ⟨⟨(I.rep.al x o (key x o hx).1).1, (key x o hx).2.1⟩, AObj.ok_and (I.rep.al x o (key x o hx).1).2 (key x o hx).2.2⟩,
          lt := fun x hx => hx.2, base := I.rep.base, mem := I.rep.mem }

/-- Two operations of which none is behind the other do not meet in a slot. -/
theorem apart_of (G : Reg E call ops bits hs C s R n nm) {i j : Nat} {oi oj : Oper} (hi : ops[i]? = some oi) (hj : ops[j]? = some oj) (hne : i ≠ j) (hij : bitOf bits i j = false) (hji : bitOf bits j i = false) :
    (∀ t, oj.dst = some t → t ∉ oi.looksAt ops) ∧ (∀ t, oj.dst = some t → oi.dst ≠ some t) := by
  rcases Nat.lt_or_ge i j with h | h
  · rcases G.pairs i j oi oj h hi hj with hb | hb
    · rw [hji] at hb; cases hb
    · obtain ⟨h1, h2, h3⟩ := Oper.apart_spec hb
      exact ⟨h3, fun t ht e => h2 t e ht⟩
  · rcases G.pairs j i oj oi (by omega) hj hi with hb | hb
    · rw [hij] at hb; cases hb
    · obtain ⟨h1, h2, h3⟩ := Oper.apart_spec hb
      exact ⟨h1, fun t ht => h2 t ht⟩

theorem newestW_p (nt : Nat) (R : List Rec) (t : Nat) (p q : Nat → Bool) (k : Nat) (h : ∀ j r, j < k → R[j]? = some r → r.dst = some t → p j = q j) : newestW nt R t p k = newestW nt R t q k := by
  induction k with
  | zero => rfl
  | succ k ih =>
    have ih' := ih (fun j r hj hr hx => h j r (by omega) hr hx)
    simp only [newestW]
    split
    · rename_i r hr
      by_cases hd : r.dst = some t
      · have := h k r (by omega) hr hd
        simp [this, ih']
      · simp [hd, ih']
    · exact ih'

/-- A slot that operation i looks at holds in D what the records say. -/
theorem slot_at (G : Reg E call ops bits hs C s R n nm) {i : Nat} {r : Rec} {oi : Oper} (hr : R[i]? = some r) (ho : ops[i]? = some oi) (hc : CanCome bits D i) {t : Nat} (ht : t ∈ oi.looksAt ops) :
    (sD s R D).get t = (slotsAt s bits (R.take i).reverse i).get t := by
  have hil := (List.getElem?_eq_some_iff.1 hr).1
  rw [get_sD]
  have h2 := sfind_wrs s.nt R (bitOf bits i) s.l t i (by omega)
  show _ = sfind (wrs s.nt (bitOf bits i) (R.take i).reverse i ++ s.l) t
  rw [h2]
  have same : ∀ j rj, R[j]? = some rj → rj.dst = some t → D j = true → bitOf bits i j = true := by
    intro j rj hrj hd hD
    obtain ⟨oj, hoj⟩ := G.get hrj
    have hne : i ≠ j := fun e => by subst e; rw [hc.un] at hD; cases hD
    have hb : bitOf bits j i = false := by
      cases hb : bitOf bits j i with
      | false => rfl
      | true => have := hc.closed i j hD hb; rw [hc.un] at this; cases this
    cases hbi : bitOf bits i j with
    | true => rfl
    | false => exact absurd ht ((apart_of G ho hoj hne hbi hb).1 t (by rw [← (G.recs j oj rj hoj hrj).dst]; exact hd))
  have e : newestW s.nt R t D R.length = newestW s.nt R t (bitOf bits i) i := by
    have e1 : newestW s.nt R t D R.length = newestW s.nt R t (bitOf bits i) R.length := newestW_p _ _ _ _ _ _ fun j rj hj hrj hd => by
      cases hD : D j with
      | true => exact (same j rj hrj hd hD).symm
      | false => cases hb : bitOf bits i j with
        | false => rfl
        | true => rw [hc.deps j hb] at hD; cases hD
    rw [e1]
    cases hn : newestW s.nt R t (bitOf bits i) i with
    | some y =>
      obtain ⟨j, v⟩ := y
      obtain ⟨h1, h2, h3, ⟨rj, h4, h5, h6⟩, h7⟩ := newestW_some hn
      subst h6
      refine newestW_of h3 (by omega) h2 h4 h5 fun k rk hk1 hk2 hk3 hk4 => ?_
      have := (G.bitsE i oi ho k hk3).1
      exact h7 k rk hk1 this hk3 hk4
    | none =>
      by_cases hlt : t < s.nt
      · cases hm : newestW s.nt R t (bitOf bits i) R.length with
        | none => rfl
        | some y =>
          obtain ⟨j, v⟩ := y
          obtain ⟨h1, h2, h3, ⟨rj, h4, h5, h6⟩, h7⟩ := newestW_some hm
          exact absurd h5 (newestW_none hlt hn j rj (G.bitsE i oi ho j h2).1 h2 h4)
      · exact newestW_big hlt _
  rw [e]
  rfl

end
end Go.Proofs.Ytdpielghjaehbaa.Ev
