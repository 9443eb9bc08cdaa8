/- The evaluator is sound: regions that draw their order. Part 1: what the records say. -/
import Derived.Test.YtdpielghjaehbaaGreatEvG
import Derived.LoopN
set_option linter.unusedSectionVars false
set_option linter.unusedSimpArgs false
set_option linter.unusedVariables false
namespace Go.Proofs.YtdpielghjaehbaaGreat.Ev
open Go.RowKit

section
variable {P : Program} {E : Env} {B0 : Nat} {B : List Seg} {call : CallF} {ops : List Oper} {bits : List Nat} {hs : List (List Nat)} {s : Slots}

/-- What the k-th record says, of the records before it ('rs', newest first). -/
structure RecOk (E : Env) (call : CallF) (ops : List Oper) (bits : List Nat) (hs : List (List Nat)) (B : List Seg) (s : Slots) (o : Oper) (k : Nat) (rs : List Rec) (n : Nat) (r : Rec) : Prop where
  dst : r.dst = o.dst
  lo : r.lo = n
  mono : n ≤ r.hi
  goes : (evWanted (slotsAt s bits rs k) ops o = some false ∧ r.v = .c .undef ∧ r.δ = [] ∧ r.hi = n) ∨
    (evWanted (slotsAt s bits rs k) ops o = some true ∧ evOp E call (slotsAt s bits rs k) o (heapAt bits hs B rs k) [] n = some (r.v, r.δ, r.hi))

theorem drawGo_recs : ∀ (l : List Oper) (k : Nat) (rs : List Rec) (n : Nat) (rs' : List Rec) (n' : Nat), evDrawGo E call ops bits hs B s l k rs n = some (rs', n') →
    ∃ new : List Rec, rs' = new.reverse ++ rs ∧ new.length = l.length ∧ (∀ j o r, l[j]? = some o → new[j]? = some r → RecOk E call ops bits hs B s o (k + j) ((new.take j).reverse ++ rs) (match j with | 0 => n | j + 1 => (new[j]?.map Rec.hi).getD 0) r) ∧
      n' = (new.getLast?.map Rec.hi).getD n
  | [], k, rs, n, rs', n', h => by
    simp only [evDrawGo, Option.some.injEq, Prod.mk.injEq] at h
    obtain ⟨rfl, rfl⟩ := h
    exact ⟨[], rfl, rfl, fun j o r ho => by simp at ho, rfl⟩
  | o :: l, k, rs, n, rs', n', h => by
    have key : ∃ r, RecOk E call ops bits hs B s o k rs n r ∧ evDrawGo E call ops bits hs B s l (k + 1) (r :: rs) r.hi = some (rs', n') := by
      simp only [evDrawGo] at h
      split at h
      · cases h
      · rename_i hw
        exact ⟨⟨.c .undef, [], n, n, o.dst⟩, ⟨rfl, rfl, Nat.le_refl _, .inl ⟨hw, rfl, rfl, rfl⟩⟩, h⟩
      · rename_i hw
        split at h
        · rename_i v δ n1 hop
          split at h
          · rename_i hle
            exact ⟨⟨v, δ, n, n1, o.dst⟩, ⟨rfl, rfl, hle, .inr ⟨hw, hop⟩⟩, h⟩
          · cases h
        · cases h
    obtain ⟨r, hr, hrest⟩ := key
    obtain ⟨new, e1, e2, e3, e4⟩ := drawGo_recs l (k + 1) (r :: rs) r.hi rs' n' hrest
    refine ⟨r :: new, by simp [e1], by simp [e2], fun j o' r' ho' hr' => ?_, ?_⟩
    · cases j with
      | zero =>
        simp only [List.getElem?_cons_zero, Option.some.injEq] at ho' hr'
        subst ho'; subst hr'
        simpa using hr
      | succ j =>
        simp only [List.getElem?_cons_succ] at ho' hr'
        have := e3 j o' r' ho' hr'
        have hk : k + 1 + j = k + (j + 1) := by omega
        rw [hk] at this
        have ht : ((r :: new).take (j + 1)).reverse ++ rs = (new.take j).reverse ++ r :: rs := by simp
        rw [ht]
        cases j with
        | zero => simpa using this
        | succ j => simpa using this
    · rw [e4]
      cases new with
      | nil => simp
      | cons x xs =>
        rw [List.getLast?_cons_cons, List.getLast?_eq_some_getLast (List.cons_ne_nil x xs)]
        rfl

/-! Looking into a heap of records. 'R' the records in order. -/

/-- The newest record below k that 'p' names and that speaks of x. -/
def newest (R : List Rec) (x : Nat) (p : Nat → Bool) : Nat → Option (Nat × Option AObj)
  | 0 => none
  | k + 1 => match R[k]? with
    | some r => if p k then (match look r.δ x with
      | some o => some (k, o)
      | none => newest R x p k) else newest R x p k
    | none => newest R x p k

theorem newest_some {R : List Rec} {x : Nat} {p : Nat → Bool} : ∀ {k j : Nat} {o : Option AObj}, newest R x p k = some (j, o) → j < k ∧ p j = true ∧ (∃ r, R[j]? = some r ∧ look r.δ x = some o) ∧ ∀ i r, j < i → i < k → p i = true → R[i]? = some r → look r.δ x = none
  | 0, j, o, h => by simp [newest] at h
  | k + 1, j, o, h => by
    have rest : newest R x p k = some (j, o) → (∀ r, p k = true → R[k]? = some r → look r.δ x = none) → j < k + 1 ∧ p j = true ∧ (∃ r, R[j]? = some r ∧ look r.δ x = some o) ∧ ∀ i r, j < i → i < k + 1 → p i = true → R[i]? = some r → look r.δ x = none := by
      intro h1 h2
      obtain ⟨a, b, c, d⟩ := newest_some h1
      refine ⟨by omega, b, c, fun i r hi hik hp hr => ?_⟩
      by_cases e : i = k
      · subst e; exact h2 r hp hr
      · exact d i r hi (by omega) hp hr
    simp only [newest] at h
    split at h
    · rename_i r hr
      split at h
      · rename_i hp
        split at h
        · rename_i o' ho
          simp only [Option.some.injEq, Prod.mk.injEq] at h
          obtain ⟨rfl, rfl⟩ := h
          exact ⟨by omega, hp, ⟨r, hr, ho⟩, fun i r' hi hik => by omega⟩
        · rename_i ho
          exact rest h (fun r' _ hr' => by rw [hr] at hr'; simp only [Option.some.injEq] at hr'; subst hr'; exact ho)
      · rename_i hp
        exact rest h (fun r' hp' _ => absurd hp' hp)
    · rename_i hr
      exact rest h (fun r' _ hr' => by rw [hr] at hr'; cases hr')

theorem newest_none {R : List Rec} {x : Nat} {p : Nat → Bool} : ∀ {k : Nat}, newest R x p k = none → ∀ i r, i < k → p i = true → R[i]? = some r → look r.δ x = none
  | 0, h, i, r, hi => by omega
  | k + 1, h, i, r, hi => by
    intro hp hr
    simp only [newest] at h
    by_cases e : i = k
    · subst e
      rw [hr] at h
      simp only [hp, if_true] at h
      split at h
      · cases h
      · rename_i ho; exact ho
    · split at h
      · split at h
        · split at h
          · cases h
          · exact newest_none h i r (by omega) hp hr
        · exact newest_none h i r (by omega) hp hr
      · exact newest_none h i r (by omega) hp hr

theorem newest_of {R : List Rec} {x : Nat} {p : Nat → Bool} {k j : Nat} {r : Rec} {o : Option AObj} (hj : j < k) (hp : p j = true) (hr : R[j]? = some r) (ho : look r.δ x = some o)
    (hn : ∀ i r, j < i → i < k → p i = true → R[i]? = some r → look r.δ x = none) : newest R x p k = some (j, o) := by
  cases h : newest R x p k with
  | none => rw [newest_none h j r hj hp hr] at ho; cases ho
  | some y =>
    obtain ⟨i, o'⟩ := y
    obtain ⟨a, b, ⟨r', hr', ho'⟩, d⟩ := newest_some h
    rcases Nat.lt_trichotomy i j with hl | hl | hl
    · rw [d j r hl hj hp hr] at ho; cases ho
    · subst hl
      rw [hr] at hr'
      simp only [Option.some.injEq] at hr'; subst hr'
      rw [ho] at ho'
      simp only [Option.some.injEq] at ho'; subst ho'
      rfl
    · rw [hn i r' hl a b hr'] at ho'; cases ho'

/-- The heap of the records that 'p' names. -/
def sel (p : Nat → Bool) : List Rec → Nat → List Seg
  | [], _ => []
  | r :: rs, k => (if p (k - 1) then r.δ else []) :: sel p rs (k - 1)

theorem take_succ_rev (R : List Rec) (k : Nat) (hk : k < R.length) : (R.take (k + 1)).reverse = R[k] :: (R.take k).reverse := by
  rw [List.take_succ_eq_append_getElem hk, List.reverse_append]
  rfl

theorem get_sel (R : List Rec) (p : Nat → Bool) (B : List Seg) (x : Nat) : ∀ k, k ≤ R.length → get (sel p (R.take k).reverse k ++ B) x = match newest R x p k with | some (_, o) => o | none => get B x
  | 0, _ => by simp [sel, newest]
  | k + 1, hk => by
    rw [take_succ_rev R k (by omega)]
    simp only [sel, List.cons_append, get, Nat.add_sub_cancel, newest, List.getElem?_eq_getElem (show k < R.length by omega)]
    have ih := get_sel R p B x k (by omega)
    by_cases hp : p k = true
    · simp only [hp, if_true]
      cases look R[k].δ x with
      | some o => rfl
      | none => exact ih
    · simp only [hp, Bool.false_eq_true, if_false, look]
      exact ih

theorem look_tomb (δ : Seg) (x : Nat) : look (tomb δ) x = (look δ x).map fun _ => none := by
  induction δ with
  | nil => rfl
  | cons q r ih =>
    obtain ⟨j, o⟩ := q
    simp only [tomb, List.map_cons, look] at ih ⊢
    by_cases h : j == x
    · simp [h]
    · simp only [h, Bool.false_eq_true, if_false]; exact ih

theorem get_seen (R : List Rec) (p : Nat → Bool) (B : List Seg) (x : Nat) : ∀ k, k ≤ R.length → get (seen p (R.take k).reverse k ++ B) x = match newest R x (fun _ => true) k with | some (j, o) => if p j then o else none | none => get B x
  | 0, _ => by simp [seen, newest]
  | k + 1, hk => by
    rw [take_succ_rev R k (by omega)]
    simp only [seen, List.cons_append, get, Nat.add_sub_cancel, newest, List.getElem?_eq_getElem (show k < R.length by omega), if_true]
    have ih := get_seen R p B x k (by omega)
    by_cases hp : p k = true
    · simp only [hp, if_true]
      cases hl : look R[k].δ x with
      | some o => simp [hp]
      | none => exact ih
    · simp only [hp, Bool.false_eq_true, if_false, look_tomb]
      cases hl : look R[k].δ x with
      | some o => simp [hp]
      | none => exact ih

/-! Slots. -/

/-- The newest record below k that 'p' names and that writes slot t. -/
def newestW (nt : Nat) (R : List Rec) (t : Nat) (p : Nat → Bool) : Nat → Option (Nat × AV)
  | 0 => none
  | k + 1 => match R[k]? with
    | some r => if p k = true ∧ r.dst = some t ∧ t < nt then some (k, r.v) else newestW nt R t p k
    | none => newestW nt R t p k

theorem sfind_append (a b : List (Nat × AV)) (t : Nat) (h : ∀ x ∈ a, x.1 ≠ t) : sfind (a ++ b) t = sfind b t := by
  induction a with
  | nil => rfl
  | cons q r ih =>
    obtain ⟨j, v⟩ := q
    rw [List.cons_append, sfind_cons, if_neg (h (j, v) (by simp)), ih (fun x hx => h x (by simp [hx]))]

theorem sfind_wrs (nt : Nat) (R : List Rec) (p : Nat → Bool) (l : List (Nat × AV)) (t : Nat) : ∀ k, k ≤ R.length → sfind (wrs nt p (R.take k).reverse k ++ l) t = match newestW nt R t p k with | some (_, v) => v | none => sfind l t
  | 0, _ => by simp [wrs, newestW]
  | k + 1, hk => by
    rw [take_succ_rev R k (by omega)]
    have ih := sfind_wrs nt R p l t k (by omega)
    simp only [wrs, Nat.add_sub_cancel, newestW, List.getElem?_eq_getElem (show k < R.length by omega)]
    cases hd : R[k].dst with
    | none =>
      simp only
      rw [ih]
      rw [if_neg (by simp)]
    | some t' =>
      simp only
      by_cases hp : p k = true
      · by_cases ht : t' < nt
        · simp only [hp, ht, decide_true, Bool.and_self, if_true, List.cons_append, sfind_cons]
          by_cases e : t' = t
          · subst e; simp [ht]
          · rw [if_neg e, if_neg (by simp [e]), ih]
        · simp only [hp, ht, decide_false, Bool.and_false, Bool.false_eq_true, if_false]
          rw [ih, if_neg (by rintro ⟨_, h2, h3⟩; simp only [Option.some.injEq] at h2; omega)]
      · simp only [hp, Bool.false_and, Bool.false_eq_true, if_false]
        rw [ih, if_neg (by simp)]

theorem newestW_some {nt : Nat} {R : List Rec} {t : Nat} {p : Nat → Bool} : ∀ {k j : Nat} {v : AV}, newestW nt R t p k = some (j, v) → j < k ∧ p j = true ∧ t < nt ∧ (∃ r, R[j]? = some r ∧ r.dst = some t ∧ r.v = v) ∧ ∀ i r, j < i → i < k → p i = true → R[i]? = some r → r.dst ≠ some t
  | 0, j, v, h => by simp [newestW] at h
  | k + 1, j, v, h => by
    simp only [newestW] at h
    have rest : newestW nt R t p k = some (j, v) → (∀ r, p k = true → R[k]? = some r → t < nt → r.dst ≠ some t) → j < k + 1 ∧ p j = true ∧ t < nt ∧ (∃ r, R[j]? = some r ∧ r.dst = some t ∧ r.v = v) ∧ ∀ i r, j < i → i < k + 1 → p i = true → R[i]? = some r → r.dst ≠ some t := by
      intro h1 h2
      obtain ⟨a, b, b', c, d⟩ := newestW_some h1
      refine ⟨by omega, b, b', c, fun i r hi hik hp hr => ?_⟩
      by_cases e : i = k
      · subst e; exact h2 r hp hr b'
      · exact d i r hi (by omega) hp hr
    split at h
    · rename_i r hr
      split at h
      · rename_i hc
        simp only [Option.some.injEq, Prod.mk.injEq] at h
        obtain ⟨rfl, rfl⟩ := h
        exact ⟨by omega, hc.1, hc.2.2, ⟨r, hr, hc.2.1, rfl⟩, fun i r' hi hik => by omega⟩
      · rename_i hc
        exact rest h (fun r' hp hr' ht e => by rw [hr] at hr'; simp only [Option.some.injEq] at hr'; subst hr'; exact hc ⟨hp, e, ht⟩)
    · rename_i hr
      exact rest h (fun r' _ hr' => by rw [hr] at hr'; cases hr')

theorem newestW_none {nt : Nat} {R : List Rec} {t : Nat} {p : Nat → Bool} (ht : t < nt) : ∀ {k : Nat}, newestW nt R t p k = none → ∀ i r, i < k → p i = true → R[i]? = some r → r.dst ≠ some t
  | 0, h, i, r, hi => by omega
  | k + 1, h, i, r, hi => by
    intro hp hr hd
    simp only [newestW] at h
    by_cases e : i = k
    · subst e
      rw [hr] at h
      simp only at h
      rw [if_pos ⟨hp, hd, ht⟩] at h
      cases h
    · split at h
      · split at h
        · cases h
        · exact newestW_none ht h i r (by omega) hp hr hd
      · exact newestW_none ht h i r (by omega) hp hr hd

theorem newestW_big {nt : Nat} {R : List Rec} {t : Nat} {p : Nat → Bool} (ht : ¬ t < nt) : ∀ k : Nat, newestW nt R t p k = none
  | 0 => rfl
  | k + 1 => by
    simp only [newestW]
    split
    · rw [if_neg (fun h => ht h.2.2)]; exact newestW_big ht k
    · exact newestW_big ht k

theorem newestW_of {nt : Nat} {R : List Rec} {t : Nat} {p : Nat → Bool} {k j : Nat} {r : Rec} (ht : t < nt) (hj : j < k) (hp : p j = true) (hr : R[j]? = some r) (hd : r.dst = some t)
    (hn : ∀ i r, j < i → i < k → p i = true → R[i]? = some r → r.dst ≠ some t) : newestW nt R t p k = some (j, r.v) := by
  cases h : newestW nt R t p k with
  | none => exact absurd hd (newestW_none ht h j r hj hp hr)
  | some y =>
    obtain ⟨i, v⟩ := y
    obtain ⟨a, b, _, ⟨r', hr', hd', hv'⟩, d⟩ := newestW_some h
    rcases Nat.lt_trichotomy i j with hl | hl | hl
    · exact absurd hd (d j r hl hj hp hr)
    · subst hl
      rw [hr] at hr'
      simp only [Option.some.injEq] at hr'; subst hr'
      rw [hv']
    · exact absurd hd' (hn i r' hl a b hr')

end
end Go.Proofs.YtdpielghjaehbaaGreat.Ev

/- The evaluator is sound: regions that draw their order. Part 2: whatever order is drawn. -/
set_option linter.unusedSectionVars false
set_option linter.unusedSimpArgs false
set_option linter.unusedVariables false
namespace Go.Proofs.YtdpielghjaehbaaGreat.Ev
open Go.RowKit

def loOf (R : List Rec) (n : Nat) : Nat → Nat
  | 0 => n
  | k + 1 => (R[k]?.map Rec.hi).getD 0

/-- A region, its records, and what was checked of them. 'C': the heap ahead of it. -/
structure Reg (E : Env) (call : CallF) (ops : Array Oper) (bits : List Nat) (hs : List (List Nat)) (C : List Seg) (s : Slots) (R : List Rec) (n nm : Nat) : Prop where
  len : R.length = ops.size
  recs : ∀ (k : Nat) (o : Oper) (r : Rec), ops[k]? = some o → R[k]? = some r → RecOk E call ops.toList bits hs C s o k (R.take k).reverse (loOf R n k) r
  top : nm = loOf R n R.length
  later : ∀ (i j : Nat) (ri rj : Rec) (x : Nat), i < j → R[i]? = some ri → R[j]? = some rj → bitOf bits j i = false → In rj.δ x → x < ri.lo → x ∈ hs.getD i []
  edges : ∀ (k : Nat) (o : Oper), ops[k]? = some o → ∀ e ∈ o.after, Region.binds .any e = true → e.on < k
  bitsE : ∀ (k : Nat) (o : Oper), ops[k]? = some o → ∀ x, bitOf bits k x = true → x < k ∧ ∃ e ∈ o.after, Region.binds .any e = true ∧ (e.on = x ∨ bitOf bits e.on x = true)
  pairs : ∀ (i k : Nat) (p o : Oper), i < k → ops[i]? = some p → ops[k]? = some o → bitOf bits k i = true ∨ p.apart ops o = true

section
variable {P : Program} {E : Env} {B0 : Nat} {call : CallF} {ops : Array Oper} {bits : List Nat} {hs : List (List Nat)} {C : List Seg} {s : Slots} {R : List Rec} {n nm : Nat}

theorem Reg.get (G : Reg E call ops bits hs C s R n nm) {k : Nat} {r : Rec} (hr : R[k]? = some r) : ∃ o, ops[k]? = some o := by
  have : k < R.length := (List.getElem?_eq_some_iff.1 hr).1
  rw [G.len] at this
  exact ⟨_, Array.getElem?_eq_getElem this⟩

theorem Reg.recAt (G : Reg E call ops bits hs C s R n nm) {k : Nat} (hk : k < ops.size) : ∃ r, R[k]? = some r := ⟨_, List.getElem?_eq_getElem (by rw [G.len]; exact hk)⟩

theorem Reg.lo (G : Reg E call ops bits hs C s R n nm) {k : Nat} {r : Rec} (hr : R[k]? = some r) : r.lo = loOf R n k ∧ r.lo ≤ r.hi ∧ r.hi = loOf R n (k + 1) := by
  obtain ⟨o, ho⟩ := G.get hr
  have h := G.recs k o r ho hr
  exact ⟨h.lo, by rw [h.lo]; exact h.mono, by simp [loOf, hr]⟩

theorem Reg.lo_le (G : Reg E call ops bits hs C s R n nm) : ∀ (j i : Nat), i ≤ j → j ≤ R.length → loOf R n i ≤ loOf R n j
  | 0, i, h, _ => by have : i = 0 := by omega
                     subst this; exact Nat.le_refl _
  | j + 1, i, h, hj => by
    by_cases e : i = j + 1
    · subst e; exact Nat.le_refl _
    · have := G.lo_le j i (by omega) (by omega)
      obtain ⟨r, hr⟩ : ∃ r, R[j]? = some r := ⟨_, List.getElem?_eq_getElem (by omega)⟩
      obtain ⟨h1, h2, h3⟩ := G.lo hr
      omega

theorem Reg.chain (G : Reg E call ops bits hs C s R n nm) {i j : Nat} {ri rj : Rec} (hi : R[i]? = some ri) (hj : R[j]? = some rj) (h : i < j) : ri.hi ≤ rj.lo := by
  obtain ⟨h1, h2, h3⟩ := G.lo hi
  obtain ⟨g1, g2, g3⟩ := G.lo hj
  have hl := (List.getElem?_eq_some_iff.1 hj).1
  have := G.lo_le j (i + 1) h (by omega)
  omega

theorem Reg.lo_n (G : Reg E call ops bits hs C s R n nm) {i : Nat} {r : Rec} (hr : R[i]? = some r) : n ≤ r.lo ∧ r.hi ≤ nm := by
  obtain ⟨h1, h2, h3⟩ := G.lo hr
  have hl := (List.getElem?_eq_some_iff.1 hr).1
  have a := G.lo_le i 0 (by omega) (by omega)
  have b := G.lo_le R.length (i + 1) (by omega) (by omega)
  have c := G.top
  simp only [loOf] at a
  constructor
  · rw [h1]; exact a
  · rw [h3, c]; exact b

/-- What may be named once the operations in D are done. -/
def alD (al : Nat → Prop) (R : List Rec) (D : Nat → Bool) (x : Nat) : Prop := al x ∨ ∃ j r, R[j]? = some r ∧ D j = true ∧ r.lo ≤ x ∧ x < r.hi

def TD (R : List Rec) (D : Nat → Bool) (x : Nat) : Prop := ∃ j r, R[j]? = some r ∧ D j = true ∧ In r.δ x

def HD (C : List Seg) (R : List Rec) (D : Nat → Bool) : List Seg := sel D R.reverse R.length ++ C

def sD (s : Slots) (R : List Rec) (D : Nat → Bool) : Slots := ⟨s.nt, wrs s.nt D R.reverse R.length ++ s.l⟩

theorem get_HD (C : List Seg) (R : List Rec) (D : Nat → Bool) (x : Nat) : get (HD C R D) x = match newest R x D R.length with | some (_, o) => o | none => get C x := by
  have := get_sel R D C x R.length (Nat.le_refl _)
  rwa [List.take_length] at this

theorem get_sD (s : Slots) (R : List Rec) (D : Nat → Bool) (t : Nat) : (sD s R D).get t = match newestW s.nt R t D R.length with | some (_, v) => v | none => s.get t := by
  have := sfind_wrs s.nt R D s.l t R.length (Nat.le_refl _)
  rwa [List.take_length] at this

/-- The operations in D are done: the world is what they made of the first one. -/
structure Inv (E : Env) (B0 : Nat) (bits : List Nat) (hs : List (List Nat)) (C : List Seg) (s : Slots) (R : List Rec) (n nm : Nat) (al : Nat → Prop) (ρ0 : Rho) (w0 : World) (df : List Deferred) (D : Nat → Bool) (ρ : Rho) (a : Act) (w : World) : Prop where
  rep : Rep E B0 ⟨HD C R D, alD al R D, nm, ρ, w⟩
  ssz : a.tmps.size = s.nt
  sat : ∀ t, a.tmps.getD t Go.undef = concV ρ ((sD s R D).get t)
  df : a.defers = df
  vok : ∀ j r, R[j]? = some r → D j = true → r.v.ok (fun x => alD al R D x ∧ x < r.hi)
  cok : ∀ j r x o, R[j]? = some r → D j = true → look r.δ x = some (some o) → o.ok (fun y => y < r.hi)
  idl : ∀ j r x, R[j]? = some r → D j = true → In r.δ x → x < r.hi ∧ (x < r.lo → ∃ o, get (heapAt bits hs C (R.take j).reverse j) x = some o)
  agree : ∀ x, x < n ∨ nm ≤ x → ρ x = ρ0 x
  live : ∀ x, TD R D x → x < n → ∃ o, get C x = some o
  size : w0.heap.size ≤ w.heap.size
  frame : ∀ b, b < w0.heap.size → (∀ x, TD R D x → x < n → (ρ0 x).1 ≠ b) → w.heap[b]? = w0.heap[b]?
  newb : ∀ x o, n ≤ x → get (HD C R D) x = some o → w0.heap.size ≤ (ρ x).1 ∨ ∃ j, TD R D j ∧ j < n ∧ (ρ x).1 = (ρ0 j).1
  misc : w.os = w0.os ∧ w.tape = w0.tape ∧ w.output = w0.output

variable {al : Nat → Prop} {ρ0 ρ : Rho} {w0 w : World} {df : List Deferred} {D : Nat → Bool} {a : Act}

/-- Operation i can come up in D. -/
structure CanCome (bits : List Nat) (D : Nat → Bool) (i : Nat) : Prop where
  un : D i = false
  deps : ∀ j, bitOf bits i j = true → D j = true
  closed : ∀ j k, D k = true → bitOf bits k j = true → D j = true

theorem newest_p (R : List Rec) (x : Nat) (p q : Nat → Bool) (k : Nat) (h : ∀ j r, j < k → R[j]? = some r → In r.δ x → p j = q j) : newest R x p k = newest R x q k := by
  induction k with
  | zero => rfl
  | succ k ih =>
    have ih' := ih (fun j r hj hr hx => h j r (by omega) hr hx)
    simp only [newest]
    split
    · rename_i r hr
      cases hl : look r.δ x with
      | none => simp [ih']
      | some o =>
        have := h k r (by omega) hr ⟨o, hl⟩
        simp [this, ih']
    · exact ih'

/-- What operation i sees is there in D. -/
theorem sees (G : Reg E call ops bits hs C s R n nm) (I : Inv E B0 bits hs C s R n nm al ρ0 w0 df D ρ a w) (hal : ∀ x o, get C x = some o → x < n ∧ o.ok (fun y => y < n)) {i : Nat} {r : Rec} (hr : R[i]? = some r) (hc : CanCome bits D i)
    {x : Nat} {o : AObj} (hx : get (heapAt bits hs C (R.take i).reverse i) x = some o) : get (HD C R D) x = some o ∧ x < r.lo ∧ o.ok (fun y => y < r.lo) ∧ (get C x = some o ∨ ∃ j rj, R[j]? = some rj ∧ D j = true ∧ In rj.δ x) := by
  have hil := (List.getElem?_eq_some_iff.1 hr).1
  have hts : x ∉ hs.getD i [] := by
    intro hm
    have : look ((hs.getD i []).map fun i => (i, (none : Option AObj))) x = some none := by
      revert hm
      generalize hs.getD i [] = l
      intro hm
      induction l with
      | nil => cases hm
      | cons y l ih =>
        simp only [List.map_cons, look]
        by_cases e : y = x
        · simp [e]
        · have : ¬ (y == x) = true := by simpa using e
          rw [if_neg this]
          exact ih ((List.mem_cons.1 hm).resolve_left (fun h => e h.symm))
    simp only [heapAt, get, this] at hx
    cases hx
  have hg : get (seen (bitOf bits i) (R.take i).reverse i ++ C) x = some o := by
    simp only [heapAt, get] at hx
    split at hx
    · rename_i o' ho
      exfalso
      revert ho hts
      generalize hs.getD i [] = l
      intro hts ho
      induction l with
      | nil => simp [look] at ho
      | cons y l ih =>
        simp only [List.map_cons, look] at ho
        by_cases e : y = x
        · exact hts (by simp [e])
        · have : ¬ (y == x) = true := by simpa using e
          rw [if_neg this] at ho
          exact ih (fun h => hts (by simp [h])) ho
    · exact hx
  rw [get_seen R _ C x i (by omega)] at hg
  -- no later operation that is done speaks of x
  have nolater : x < r.lo → ∀ j rj, i ≤ j → j < R.length → D j = true → R[j]? = some rj → look rj.δ x = none := by
    intro hlo j rj hij hjl hD hj
    cases hl : look rj.δ x with
    | none => rfl
    | some o' =>
      exfalso
      have hne : i ≠ j := fun e => by subst e; rw [hc.un] at hD; cases hD
      have hb : bitOf bits j i = false := by
        cases hb : bitOf bits j i with
        | false => rfl
        | true => have := hc.closed i j hD hb; rw [hc.un] at this; cases this
      exact hts (G.later i j r rj x (by omega) hr hj hb ⟨o', hl⟩ hlo)
  cases hn : newest R x (fun _ => true) i with
  | none =>
    rw [hn] at hg
    simp only at hg
    have hlo : x < r.lo := Nat.lt_of_lt_of_le (hal x o hg).1 (G.lo_n hr).1
    have hnn := newest_none hn
    refine ⟨?_, hlo, AObj.ok_mono (fun y hy => Nat.lt_of_lt_of_le hy (G.lo_n hr).1) (hal x o hg).2, .inl hg⟩
    · rw [get_HD]
      have : newest R x D R.length = none := by
        cases hm : newest R x D R.length with
        | none => rfl
        | some y =>
          obtain ⟨j, o'⟩ := y
          obtain ⟨h1, h2, ⟨rj, h3, h4⟩, _⟩ := newest_some hm
          by_cases hji : j < i
          · rw [hnn j rj hji rfl h3] at h4; cases h4
          · rw [nolater hlo j rj (by omega) h1 h2 h3] at h4; cases h4
      rw [this]; exact hg
  | some y =>
    obtain ⟨j, o'⟩ := y
    rw [hn] at hg
    simp only at hg
    split at hg
    · rename_i hb
      subst hg
      obtain ⟨h1, _, ⟨rj, h3, h4⟩, h5⟩ := newest_some hn
      have hD := hc.deps j hb
      have hhi := (I.idl j rj x h3 hD ⟨_, h4⟩).1
      have hlo : x < r.lo := Nat.lt_of_lt_of_le hhi (G.chain h3 hr h1)
      refine ⟨?_, hlo, AObj.ok_mono (fun y hy => Nat.lt_of_lt_of_le hy (G.chain h3 hr h1)) (I.cok j rj x o h3 hD h4), .inr ⟨j, rj, h3, hD, _, h4⟩⟩
      · rw [get_HD]
        have : newest R x D R.length = some (j, some o) := by
          refine newest_of (by omega) hD h3 h4 fun k rk hk1 hk2 hk3 hk4 => ?_
          by_cases hki : k < i
          · exact h5 k rk hk1 hki rfl hk4
          · exact nolater hlo k rk (by omega) hk2 hk3 hk4
        rw [this]
    · cases hg

theorem AC.ok_and {p q : Nat → Prop} : ∀ {c : AC}, c.ok p → c.ok q → c.ok (fun y => p y ∧ q y)
  | .undef, _, _ | .bool _, _, _ | .int .., _, _ | .str _, _, _ | .sl0, _, _ | .mnil, _, _ | .raw _, _, _ => trivial
  | .ptr i _, h, k => ⟨h, k⟩
  | .sl i _, h, k => ⟨h, k⟩
  | .mref i, h, k => ⟨h, k⟩
  | .clo _ i, h, k => ⟨h, k⟩

theorem AObj.ok_and {p q : Nat → Prop} {o : AObj} (h : o.ok p) (k : o.ok q) : o.ok (fun y => p y ∧ q y) := by
  cases o with
  | cells e l => exact fun x hx => AC.ok_and (h x hx) (k x hx)
  | pm ks c => trivial
  | km es c => exact fun e he => ⟨h e he, k e he⟩
  | mit m a b c => exact ⟨h, k⟩
  | sit a b => trivial

theorem AV.ok_and {p q : Nat → Prop} {v : AV} (h : v.ok p) (k : v.ok q) : v.ok (fun y => p y ∧ q y) := by
  cases v with
  | c x => exact AC.ok_and h k
  | agg l => exact fun x hx => AC.ok_and (h x hx) (k x hx)
  | tup l => exact fun x hx => AC.ok_and (h x hx) (k x hx)

/-- What operation i sees, as a heap. -/
theorem rep_at (G : Reg E call ops bits hs C s R n nm) (I : Inv E B0 bits hs C s R n nm al ρ0 w0 df D ρ a w) (hal : ∀ x o, get C x = some o → x < n ∧ o.ok (fun y => y < n)) {i : Nat} {r : Rec} (hr : R[i]? = some r) (hc : CanCome bits D i) :
    Rep E B0 ⟨[] :: heapAt bits hs C (R.take i).reverse i, fun y => alD al R D y ∧ y < r.lo, r.lo, ρ, w⟩ := by
  have key : ∀ x o, get ([] :: heapAt bits hs C (R.take i).reverse i) x = some o → get (HD C R D) x = some o ∧ x < r.lo ∧ o.ok (fun y => y < r.lo) := fun x o hx => by
    simp only [Go.Proofs.YtdpielghjaehbaaGreat.Ev.get, look] at hx
    obtain ⟨h1, h2, h3, _⟩ := sees G I hal hr hc hx
    exact ⟨h1, h2, h3⟩
  exact { obj := fun x o hx => I.rep.obj x o (key x o hx).1, lo := fun x o hx => I.rep.lo x o (key x o hx).1,
          inj := fun x y o p hx hy => I.rep.inj x y o p (key x o hx).1 (key y p hy).1,
          al := fun x o hx => ⟨⟨(I.rep.al x o (key x o hx).1).1, (key x o hx).2.1⟩, AObj.ok_and (I.rep.al x o (key x o hx).1).2 (key x o hx).2.2⟩,
          lt := fun x hx => hx.2, base := I.rep.base, mem := I.rep.mem }

/-- Two operations of which none is behind the other do not meet in a slot. -/
theorem apart_of (G : Reg E call ops bits hs C s R n nm) {i j : Nat} {oi oj : Oper} (hi : ops[i]? = some oi) (hj : ops[j]? = some oj) (hne : i ≠ j) (hij : bitOf bits i j = false) (hji : bitOf bits j i = false) :
    (∀ t, oj.dst = some t → t ∉ oi.looksAt ops) ∧ (∀ t, oj.dst = some t → oi.dst ≠ some t) := by
  rcases Nat.lt_or_ge i j with h | h
  · rcases G.pairs i j oi oj h hi hj with hb | hb
    · rw [hji] at hb; cases hb
    · obtain ⟨h1, h2, h3⟩ := Oper.apart_spec hb
      exact ⟨h3, fun t ht e => h2 t e ht⟩
  · rcases G.pairs j i oj oi (by omega) hj hi with hb | hb
    · rw [hij] at hb; cases hb
    · obtain ⟨h1, h2, h3⟩ := Oper.apart_spec hb
      exact ⟨h1, fun t ht => h2 t ht⟩

theorem newestW_p (nt : Nat) (R : List Rec) (t : Nat) (p q : Nat → Bool) (k : Nat) (h : ∀ j r, j < k → R[j]? = some r → r.dst = some t → p j = q j) : newestW nt R t p k = newestW nt R t q k := by
  induction k with
  | zero => rfl
  | succ k ih =>
    have ih' := ih (fun j r hj hr hx => h j r (by omega) hr hx)
    simp only [newestW]
    split
    · rename_i r hr
      by_cases hd : r.dst = some t
      · have := h k r (by omega) hr hd
        simp [this, ih']
      · simp [hd, ih']
    · exact ih'

/-- A slot that operation i looks at holds in D what the records say. -/
theorem slot_at (G : Reg E call ops bits hs C s R n nm) {i : Nat} {r : Rec} {oi : Oper} (hr : R[i]? = some r) (ho : ops[i]? = some oi) (hc : CanCome bits D i) {t : Nat} (ht : t ∈ oi.looksAt ops) :
    (sD s R D).get t = (slotsAt s bits (R.take i).reverse i).get t := by
  have hil := (List.getElem?_eq_some_iff.1 hr).1
  rw [get_sD]
  have h2 := sfind_wrs s.nt R (bitOf bits i) s.l t i (by omega)
  show _ = sfind (wrs s.nt (bitOf bits i) (R.take i).reverse i ++ s.l) t
  rw [h2]
  have same : ∀ j rj, R[j]? = some rj → rj.dst = some t → D j = true → bitOf bits i j = true := by
    intro j rj hrj hd hD
    obtain ⟨oj, hoj⟩ := G.get hrj
    have hne : i ≠ j := fun e => by subst e; rw [hc.un] at hD; cases hD
    have hb : bitOf bits j i = false := by
      cases hb : bitOf bits j i with
      | false => rfl
      | true => have := hc.closed i j hD hb; rw [hc.un] at this; cases this
    cases hbi : bitOf bits i j with
    | true => rfl
    | false => exact absurd ht ((apart_of G ho hoj hne hbi hb).1 t (by rw [← (G.recs j oj rj hoj hrj).dst]; exact hd))
  have e : newestW s.nt R t D R.length = newestW s.nt R t (bitOf bits i) i := by
    have e1 : newestW s.nt R t D R.length = newestW s.nt R t (bitOf bits i) R.length := newestW_p _ _ _ _ _ _ fun j rj hj hrj hd => by
      cases hD : D j with
      | true => exact (same j rj hrj hd hD).symm
      | false => cases hb : bitOf bits i j with
        | false => rfl
        | true => rw [hc.deps j hb] at hD; cases hD
    rw [e1]
    cases hn : newestW s.nt R t (bitOf bits i) i with
    | some y =>
      obtain ⟨j, v⟩ := y
      obtain ⟨h1, h2, h3, ⟨rj, h4, h5, h6⟩, h7⟩ := newestW_some hn
      subst h6
      refine newestW_of h3 (by omega) h2 h4 h5 fun k rk hk1 hk2 hk3 hk4 => ?_
      have := (G.bitsE i oi ho k hk3).1
      exact h7 k rk hk1 this hk3 hk4
    | none =>
      by_cases hlt : t < s.nt
      · cases hm : newestW s.nt R t (bitOf bits i) R.length with
        | none => rfl
        | some y =>
          obtain ⟨j, v⟩ := y
          obtain ⟨h1, h2, h3, ⟨rj, h4, h5, h6⟩, h7⟩ := newestW_some hm
          exact absurd h5 (newestW_none hlt hn j rj (G.bitsE i oi ho j h2).1 h2 h4)
      · exact newestW_big hlt _
  rw [e]
  rfl

end
end Go.Proofs.YtdpielghjaehbaaGreat.Ev

/- The evaluator is sound: regions that draw their order. Part 3: one operation more. -/
set_option linter.unusedSectionVars false
set_option linter.unusedSimpArgs false
set_option linter.unusedVariables false
namespace Go.Proofs.YtdpielghjaehbaaGreat.Ev
open Go.RowKit

section
variable {P : Program} {E : Env} {B0 : Nat} {call : CallF} {ops : Array Oper} {bits : List Nat} {hs : List (List Nat)} {C : List Seg} {s : Slots} {R : List Rec} {n nm : Nat}
variable {al : Nat → Prop} {ρ0 ρ : Rho} {w0 w : World} {df : List Deferred} {D D' : Nat → Bool} {a : Act}

theorem newest_cons (R : List Rec) {x i : Nat} {r : Rec} (hr : R[i]? = some r) (hD' : ∀ j, D' j = (j == i || D j)) (hx : ∀ o, look r.δ x = some o → ∀ j rj, i < j → R[j]? = some rj → D j = true → look rj.δ x = none) :
    newest R x D' R.length = match look r.δ x with | some o => some (i, o) | none => newest R x D R.length := by
  have hil := (List.getElem?_eq_some_iff.1 hr).1
  cases hl : look r.δ x with
  | some o =>
    refine newest_of hil (by simp [hD']) hr hl fun j rj h1 h2 h3 h4 => ?_
    have : D j = true := by
      rw [hD'] at h3
      simp only [Bool.or_eq_true, beq_iff_eq] at h3
      exact h3.resolve_left (by omega)
    exact hx o hl j rj h1 h4 this
  | none =>
    refine newest_p _ _ _ _ _ fun j rj hj hrj hin => ?_
    rw [hD']
    by_cases e : j = i
    · subst e
      rw [hr] at hrj
      simp only [Option.some.injEq] at hrj; subst hrj
      obtain ⟨o, ho⟩ := hin
      rw [hl] at ho; cases ho
    · simp [e]

/-- An object that operation i speaks of no later operation that is done speaks of. -/
theorem nobody_later (G : Reg E call ops bits hs C s R n nm) (I : Inv E B0 bits hs C s R n nm al ρ0 w0 df D ρ a w) {i : Nat} {r : Rec} (hr : R[i]? = some r) (hc : CanCome bits D i) {x : Nat} (hx : In r.δ x) (hxh : x < r.hi) :
    ∀ j, i < j → ∀ rj, R[j]? = some rj → D j = true → look rj.δ x = none := by
  intro j
  induction j using Nat.strongRecOn with
  | _ j ih =>
    intro hij rj hj hD
    cases hl : look rj.δ x with
    | none => rfl
    | some o =>
      exfalso
      have hb : bitOf bits j i = false := by
        cases hb : bitOf bits j i with
        | false => rfl
        | true => have := hc.closed i j hD hb; rw [hc.un] at this; cases this
      have hjl := (List.getElem?_eq_some_iff.1 hj).1
      obtain ⟨o', ho'⟩ := (I.idl j rj x hj hD ⟨o, hl⟩).2 (Nat.lt_of_lt_of_le hxh (G.chain hr hj hij))
      have hg : get (seen (bitOf bits j) (R.take j).reverse j ++ C) x = some o' := by
        simp only [heapAt, get] at ho'
        split at ho'
        · rename_i o2 ho2
          exfalso
          subst ho'
          revert ho2
          generalize hs.getD j [] = l
          intro ho2
          induction l with
          | nil => simp [look] at ho2
          | cons y l ihl =>
            simp only [List.map_cons, look] at ho2
            by_cases e : (y == x) = true
            · rw [if_pos e] at ho2; cases ho2
            · rw [if_neg e] at ho2; exact ihl ho2
        · exact ho'
      rw [get_seen R _ C x j (by omega)] at hg
      cases hn : newest R x (fun _ => true) j with
      | none =>
        obtain ⟨o3, ho3⟩ := hx
        rw [newest_none hn i r hij rfl hr] at ho3; cases ho3
      | some y =>
        obtain ⟨k, o4⟩ := y
        rw [hn] at hg
        simp only at hg
        split at hg
        · rename_i hbk
          obtain ⟨h1, _, ⟨rk, h3, h4⟩, h5⟩ := newest_some hn
          rcases Nat.lt_trichotomy k i with hki | hki | hki
          · obtain ⟨o3, ho3⟩ := hx
            rw [h5 i r hki hij rfl hr] at ho3; cases ho3
          · subst hki; rw [hb] at hbk; cases hbk
          · have := ih k h1 hki rk h3 (hc.closed k j hD hbk)
            rw [this] at h4; cases h4
        · cases hg

theorem inv_step (G : Reg E call ops bits hs C s R n nm) (I : Inv E B0 bits hs C s R n nm al ρ0 w0 df D ρ a w) (hal : ∀ x o, get C x = some o → x < n ∧ o.ok (fun y => y < n)) (hal0 : ∀ x, al x → x < n)
    (hs0 : ∀ t, (s.get t).ok al) {i : Nat} {r : Rec} {oi : Oper} (hr : R[i]? = some r) (ho : ops[i]? = some oi) (hc : CanCome bits D i)
    (hD' : ∀ j, D' j = (j == i || D j)) {al' : Nat → Prop} {ρ' : Rho} {w' : World}
    (hst : Step E B0 (In r.δ) ⟨[] :: heapAt bits hs C (R.take i).reverse i, fun y => alD al R D y ∧ y < r.lo, r.lo, ρ, w⟩ ⟨r.δ :: heapAt bits hs C (R.take i).reverse i, al', r.hi, ρ', w'⟩)
    (hv : r.v.ok al') : Inv E B0 bits hs C s R n nm al ρ0 w0 df D' ρ' (a.put oi.dst (concV ρ' r.v)) w' := by
  have hDi : D' i = true := by simp [hD']
  have hDD : ∀ j, D j = true → D' j = true := fun j h => by simp [hD', h]
  have hD'D : ∀ j, D' j = true → j = i ∨ D j = true := fun j h => by
    rw [hD'] at h
    simpa using h
  obtain ⟨hn1, hn2⟩ := G.lo_n hr
  have hlohi := (G.lo hr).2.1
  have halD : ∀ x, alD al R D x → alD al R D' x := by
    rintro x (h | ⟨j, rj, h1, h2, h3⟩)
    · exact .inl h
    · exact .inr ⟨j, rj, h1, hDD j h2, h3⟩
  have hal' : ∀ x, al' x → alD al R D' x ∧ x < r.hi := by
    intro x hx
    rcases (hst.al_eq x).1 hx with h | h
    · exact ⟨halD x h.1, Nat.lt_of_lt_of_le h.2 hlohi⟩
    · exact ⟨.inr ⟨i, r, hr, hDi, h.1, h.2⟩, h.2⟩
  have hinh : ∀ x, In r.δ x → x < r.hi := fun x hx => hst.ids x hx
  -- what may be named in D is old for operation i
  have hag : ∀ x, alD al R D x → ρ' x = ρ x := by
    intro x hx
    refine hst.agree x ?_
    rcases hx with h | ⟨j, rj, h1, h2, h3, h4⟩
    · exact .inl (Nat.lt_of_lt_of_le (hal0 x h) hn1)
    · have hne : j ≠ i := fun e => by subst e; rw [hc.un] at h2; cases h2
      rcases Nat.lt_or_ge j i with hl | hl
      · exact .inl (Nat.lt_of_lt_of_le h4 (G.chain h1 hr hl))
      · exact .inr (Nat.le_trans (G.chain hr h1 (by omega)) h3)
  have hget : ∀ x, get (HD C R D') x = match look r.δ x with | some o => o | none => get (HD C R D) x := by
    intro x
    rw [get_HD, get_HD, newest_cons R hr hD' fun o hl j rj hij hrj hD => nobody_later G I hr hc ⟨o, hl⟩ (hinh x ⟨o, hl⟩) j hij rj hrj hD]
    cases look r.δ x <;> rfl
  have hgetE : ∀ x, get (r.δ :: heapAt bits hs C (R.take i).reverse i) x = match look r.δ x with | some o => o | none => get (heapAt bits hs C (R.take i).reverse i) x := fun x => rfl
  have hin : ∀ x o, look r.δ x = some (some o) → get (r.δ :: heapAt bits hs C (R.take i).reverse i) x = some o := fun x o h => by rw [hgetE, h]
  -- an object that operation i found
  have hfound : ∀ x, In r.δ x → x < r.lo → ∃ o, get (HD C R D) x = some o ∧ (get C x = some o ∨ TD R D x) := by
    intro x hx hlo
    obtain ⟨o, ho⟩ := hst.live x hx hlo
    have ho' : get (heapAt bits hs C (R.take i).reverse i) x = some o := by simpa only [get, look] using ho
    obtain ⟨h1, _, _, h4⟩ := sees G I hal hr hc ho'
    exact ⟨o, h1, h4⟩
  have hw : ∀ x o, ¬ In r.δ x → get (HD C R D) x = some o → w'.heap[(ρ x).1]? = w.heap[(ρ x).1]? := by
    intro x o hx ho
    refine hst.frame _ (I.rep.below ho) fun y hy hylo e => ?_
    obtain ⟨oy, hoy, _⟩ := hfound y hy hylo
    have := I.rep.inj y x oy o hoy ho e
    subst this
    exact hx hy
  have hcases : ∀ x o, get (HD C R D') x = some o → (In r.δ x ∧ get (r.δ :: heapAt bits hs C (R.take i).reverse i) x = some o) ∨ (¬ In r.δ x ∧ get (HD C R D) x = some o) := by
    intro x o ho
    rw [hget] at ho
    cases hl : look r.δ x with
    | some o' =>
      rw [hl] at ho
      simp only at ho
      subst ho
      exact .inl ⟨⟨_, hl⟩, hin x o hl⟩
    | none =>
      rw [hl] at ho
      exact .inr ⟨fun ⟨o', h'⟩ => (by rw [hl] at h'; cases h'), ho⟩
  have hrepE := hst.rep
  have hnew : ∀ x o, In r.δ x → get (r.δ :: heapAt bits hs C (R.take i).reverse i) x = some o → ∀ y p, ¬ In r.δ y → get (HD C R D) y = some p → (ρ' x).1 ≠ (ρ y).1 := by
    intro x o hx ho y p hy hp e
    have hby := I.rep.below hp
    simp only at hby
    by_cases hlo : x < r.lo
    · obtain ⟨o1, ho1, _⟩ := hfound x hx hlo
      have e0 : ρ' x = ρ x := hst.agree x (.inl hlo)
      rw [e0] at e
      have := I.rep.inj x y o1 p ho1 hp e
      subst this
      exact hy hx
    · rcases hst.newb x o (by simp only; omega) ho with h | ⟨j, hj, hjl, he⟩
      · simp only at h; omega
      · simp only at he hjl
        rw [he] at e
        obtain ⟨o1, ho1, _⟩ := hfound j hj hjl
        have := I.rep.inj j y o1 p ho1 hp e
        subst this
        exact hy hj
  have hTD : ∀ x, TD R D' x ↔ In r.δ x ∨ TD R D x := by
    intro x
    constructor
    · rintro ⟨j, rj, h1, h2, h3⟩
      rcases hD'D j h2 with e | e
      · subst e
        rw [hr] at h1
        simp only [Option.some.injEq] at h1; subst h1
        exact .inl h3
      · exact .inr ⟨j, rj, h1, e, h3⟩
    · rintro (h | ⟨j, rj, h1, h2, h3⟩)
      · exact ⟨i, r, hr, hDi, h⟩
      · exact ⟨j, rj, h1, hDD j h2, h3⟩
  refine { rep := ?_, ssz := ?_, sat := ?_, df := ?_, vok := ?_, cok := ?_, idl := ?_, agree := ?_, live := ?_, size := ?_, frame := ?_, newb := ?_, misc := ?_ }
  · refine { obj := ?_, lo := ?_, inj := ?_, al := ?_, lt := ?_, base := Nat.le_trans I.rep.base hst.size, mem := hrepE.mem }
    · intro x o ho
      rcases hcases x o ho with ⟨h1, h2⟩ | ⟨h1, h2⟩
      · exact hrepE.obj x o h2
      · obtain ⟨blk, hx, hb⟩ := I.rep.obj x o h2
        have e := hag x (I.rep.al x o h2).1
        refine ⟨blk, ?_, ?_⟩
        · simp only
          rw [e, hw x o h1 h2]
          exact hx
        · simp only [e]; exact BlkIs_agree hag (I.rep.al x o h2).2 hb
    · intro x o ho
      rcases hcases x o ho with ⟨h1, h2⟩ | ⟨h1, h2⟩
      · exact hrepE.lo x o h2
      · simp only [hag x (I.rep.al x o h2).1]; exact I.rep.lo x o h2
    · intro x y o p hx hy he
      simp only at he
      rcases hcases x o hx with ⟨h1, h2⟩ | ⟨h1, h2⟩ <;> rcases hcases y p hy with ⟨g1, g2⟩ | ⟨g1, g2⟩
      · exact hrepE.inj x y o p h2 g2 he
      · rw [hag y (I.rep.al y p g2).1] at he
        exact absurd he (hnew x o h1 h2 y p g1 g2)
      · rw [hag x (I.rep.al x o h2).1] at he
        exact absurd he.symm (hnew y p g1 g2 x o h1 h2)
      · rw [hag x (I.rep.al x o h2).1, hag y (I.rep.al y p g2).1] at he
        exact I.rep.inj x y o p h2 g2 he
    · intro x o ho
      rcases hcases x o ho with ⟨h1, h2⟩ | ⟨h1, h2⟩
      · exact ⟨(hal' x (hrepE.al x o h2).1).1, AObj.ok_mono (fun y hy => (hal' y hy).1) (hrepE.al x o h2).2⟩
      · exact ⟨halD x (I.rep.al x o h2).1, AObj.ok_mono halD (I.rep.al x o h2).2⟩
    · rintro x (h | ⟨j, rj, h1, h2, h3, h4⟩)
      · have := hal0 x h; simp only; omega
      · have := (G.lo_n h1).2; simp only; omega
  · cases hd : oi.dst <;> simp [Act.put, I.ssz]
  · intro t
    have hrd : r.dst = oi.dst := (G.recs i oi r ho hr).dst
    by_cases htn : t < s.nt
    · have hw2 : newestW s.nt R t D' R.length = if oi.dst = some t then some (i, r.v) else newestW s.nt R t D R.length := by
        by_cases hd : oi.dst = some t
        · rw [if_pos hd]
          refine newestW_of htn (List.getElem?_eq_some_iff.1 hr).1 hDi hr (by rw [hrd]; exact hd) fun j rj h1 h2 h3 h4 hdj => ?_
          obtain ⟨oj, hoj⟩ := G.get h4
          have hDj : D j = true := (hD'D j h3).resolve_left (by omega)
          have hb : bitOf bits j i = false := by
            cases hb : bitOf bits j i with
            | false => rfl
            | true => have := hc.closed i j hDj hb; rw [hc.un] at this; cases this
          have hbi : bitOf bits i j = false := by
            cases hb : bitOf bits i j with
            | false => rfl
            | true => have := (G.bitsE i oi ho j hb).1; omega
          exact (apart_of G ho hoj (by omega) hbi hb).2 t (by rw [← (G.recs j oj rj hoj h4).dst]; exact hdj) hd
        · rw [if_neg hd]
          refine newestW_p _ _ _ _ _ _ fun j rj h1 h2 h3 => ?_
          rw [hD']
          by_cases e : j = i
          · subst e
            rw [hr] at h2
            simp only [Option.some.injEq] at h2; subst h2
            rw [hrd] at h3
            exact absurd h3 hd
          · simp [e]
      rw [get_sD, hw2]
      by_cases hd : oi.dst = some t
      · rw [if_pos hd]
        simp only [hd, Act.put]
        have : t < a.tmps.size := by rw [I.ssz]; exact htn
        simp [this]
      · rw [if_neg hd]
        have h1 : (a.put oi.dst (concV ρ' r.v)).tmps.getD t Go.undef = a.tmps.getD t Go.undef := by
          cases hdd : oi.dst with
          | none => rfl
          | some t' =>
            have hne : t' ≠ t := fun e => hd (by rw [hdd, e])
            simp [Act.put, Array.getElem?_setIfInBounds_ne hne]
        rw [h1, I.sat t, get_sD]
        refine (concV_agree hag ?_).symm
        cases hm : newestW s.nt R t D R.length with
        | none => exact AV.ok_mono (fun x hx => .inl hx) (hs0 t)
        | some y =>
          obtain ⟨j, v⟩ := y
          obtain ⟨h1, h2, h3, ⟨rj, h4, h5, h6⟩, _⟩ := newestW_some hm
          subst h6
          exact AV.ok_mono (fun x hx => hx.1) (I.vok j rj h4 h2)
    · rw [get_sD, newestW_big htn]
      have h1 : (a.put oi.dst (concV ρ' r.v)).tmps.getD t Go.undef = a.tmps.getD t Go.undef := by
        have hsz : ¬ t < a.tmps.size := by rw [I.ssz]; exact htn
        cases hdd : oi.dst with
        | none => rfl
        | some t' => simp [Act.put, hsz]
      rw [h1, I.sat t, get_sD, newestW_big htn]
      exact (concV_agree hag (AV.ok_mono (fun x hx => .inl hx) (hs0 t))).symm
  · rw [put_defers]; exact I.df
  · intro j rj hj hDj
    rcases hD'D j hDj with e | e
    · subst e
      rw [hr] at hj
      simp only [Option.some.injEq] at hj; subst hj
      exact AV.ok_mono hal' hv
    · exact AV.ok_mono (fun x hx => ⟨halD x hx.1, hx.2⟩) (I.vok j rj hj e)
  · intro j rj x o hj hDj hl
    rcases hD'D j hDj with e | e
    · subst e
      rw [hr] at hj
      simp only [Option.some.injEq] at hj; subst hj
      exact AObj.ok_mono (fun y hy => (hal' y hy).2) (hrepE.al x o (hin x o hl)).2
    · exact I.cok j rj x o hj e hl
  · intro j rj x hj hDj hx
    rcases hD'D j hDj with e | e
    · subst e
      rw [hr] at hj
      simp only [Option.some.injEq] at hj; subst hj
      refine ⟨hinh x hx, fun hlo => ?_⟩
      obtain ⟨o, ho⟩ := hst.live x hx hlo
      exact ⟨o, by simpa only [get, look] using ho⟩
    · exact I.idl j rj x hj e hx
  · intro x hx
    have e0 : ρ' x = ρ x := hst.agree x (by simp only; omega)
    rw [e0, I.agree x hx]
  · intro x hx hxn
    rcases (hTD x).1 hx with h | h
    · obtain ⟨o, ho, hq⟩ := hfound x h (Nat.lt_of_lt_of_le hxn hn1)
      rcases hq with hq | hq
      · exact ⟨o, hq⟩
      · exact I.live x hq hxn
    · exact I.live x h hxn
  · exact Nat.le_trans I.size hst.size
  · intro b hb hT
    rw [hst.frame b (Nat.lt_of_lt_of_le hb I.size) ?_, I.frame b hb (fun x hx hxn => hT x ((hTD x).2 (.inr hx)) hxn)]
    intro y hy hylo
    simp only at hylo ⊢
    by_cases hyn : y < n
    · rw [I.agree y (.inl hyn)]; exact hT y ((hTD y).2 (.inl hy)) hyn
    · obtain ⟨o, ho, _⟩ := hfound y hy hylo
      rcases I.newb y o (by omega) ho with h | ⟨j, hj, hjn, he⟩
      · omega
      · rw [he]; exact hT j ((hTD j).2 (.inr hj)) hjn
  · intro x o hxn ho
    rcases hcases x o ho with ⟨h1, h2⟩ | ⟨h1, h2⟩
    · have old : ∀ y, In r.δ y → y < r.lo → n ≤ y → w0.heap.size ≤ (ρ y).1 ∨ ∃ j, TD R D' j ∧ j < n ∧ (ρ y).1 = (ρ0 j).1 := by
        intro y hy hylo hyn
        obtain ⟨o1, ho1, _⟩ := hfound y hy hylo
        rcases I.newb y o1 hyn ho1 with h | ⟨j, hj, hjn, he⟩
        · exact .inl h
        · exact .inr ⟨j, (hTD j).2 (.inr hj), hjn, he⟩
      by_cases hlo : x < r.lo
      · have e0 : ρ' x = ρ x := hst.agree x (.inl hlo)
        rw [e0]; exact old x h1 hlo hxn
      · rcases hst.newb x o (by simp only; omega) h2 with h | ⟨j, hj, hjl, he⟩
        · exact .inl (Nat.le_trans I.size h)
        · simp only at he hjl
          rw [he]
          by_cases hjn : j < n
          · rw [I.agree j (.inl hjn)]; exact .inr ⟨j, (hTD j).2 (.inl hj), hjn, rfl⟩
          · exact old j hj hjl (by omega)
    · rw [hag x (I.rep.al x o h2).1]
      rcases I.newb x o hxn h2 with h | ⟨j, hj, hjn, he⟩
      · exact .inl h
      · exact .inr ⟨j, (hTD j).2 (.inr hj), hjn, he⟩
  · exact ⟨hst.misc.1.trans I.misc.1, hst.misc.2.1.trans I.misc.2.1, hst.misc.2.2.trans I.misc.2.2⟩

end
end Go.Proofs.YtdpielghjaehbaaGreat.Ev

/- The evaluator is sound: regions that draw their order. Part 4: the whole region. -/
set_option linter.unusedSectionVars false
set_option linter.unusedSimpArgs false
set_option linter.unusedVariables false
namespace Go.Proofs.YtdpielghjaehbaaGreat.Ev
open Go.RowKit

section
variable {P : Program} {E : Env} {B0 : Nat} {call : CallF} {ops : Array Oper} {bits : List Nat} {hs : List (List Nat)} {C : List Seg} {s : Slots} {R : List Rec} {n nm : Nat}
variable {al : Nat → Prop} {ρ0 ρ : Rho} {w0 w : World} {df : List Deferred} {D D' : Nat → Bool} {a : Act}

/-- Operation i, whatever has been done, goes as its record says. -/
theorem op_comes (hE : EnvOk P E) (hcall : CallOk P E B0 call) (G : Reg E call ops bits hs C s R n nm) (I : Inv E B0 bits hs C s R n nm al ρ0 w0 df D ρ a w) (hal : ∀ x o, get C x = some o → x < n ∧ o.ok (fun y => y < n)) (hal0 : ∀ x, al x → x < n)
    (hs0 : ∀ t, (s.get t).ok al) (hbig : ∀ t, ¬ t < s.nt → concV ρ0 (s.get t) = Go.undef) {i : Nat} {oi : Oper} (ho : ops[i]? = some oi) (hc : CanCome bits D i) (hD' : ∀ j, D' j = (j == i || D j)) {Q : Exit → Act → World → Prop} {K : Act → World → Prop}
    (hK : ∀ ρ' a' w', Inv E B0 bits hs C s R n nm al ρ0 w0 df D' ρ' a' w' → K a' w') : wpOp P ops Q i K a w := by
  have hio : i < ops.size := (Array.getElem?_eq_some_iff.1 ho).1
  obtain ⟨r, hr⟩ := G.recAt hio
  have hrec := G.recs i oi r ho hr
  have hrep := rep_at G I hal hr hc
  have hag0 : ∀ x, al x → ρ x = ρ0 x := fun x hx => I.agree x (.inl (hal0 x hx))
  have hat : ∀ t, t ∈ oi.looksAt ops → a.tmps.getD t Go.undef = concV ρ ((slotsAt s bits (R.take i).reverse i).get t) := fun t ht => by
    rw [I.sat t, slot_at G hr ho hc ht]
  have hsd : (slotsAt s bits (R.take i).reverse i).nt = s.nt := rfl
  unfold wpOp
  rw [ho]
  simp only
  rcases hrec.goes with ⟨hw, hv, hδ, hhi⟩ | ⟨hw, hev⟩
  · rw [evWanted_at (a := a) (ρ := ρ) (s := slotsAt s bits (R.take i).reverse i) I.ssz hat hw]
    simp only [Bool.false_eq_true, if_false]
    have hlo : r.hi = r.lo := by rw [hhi, hrec.lo]
    have hst := Step.refl hrep
    have hst' : Step E B0 (In r.δ) ⟨[] :: heapAt bits hs C (R.take i).reverse i, fun y => alD al R D y ∧ y < r.lo, r.lo, ρ, w⟩ ⟨r.δ :: heapAt bits hs C (R.take i).reverse i, fun y => alD al R D y ∧ y < r.lo, r.hi, ρ, w⟩ := by
      rw [hδ, hlo]; exact hst
    have := inv_step G I hal hal0 hs0 hr ho hc hD' hst' (by rw [hv]; trivial)
    rw [hv] at this
    exact hK ρ _ w this
  · rw [evWanted_at (a := a) (ρ := ρ) (s := slotsAt s bits (R.take i).reverse i) I.ssz hat hw]
    simp only [if_true]
    left
    -- a frame that holds what the evaluator's slots say
    let a2 : Act := ⟨((List.range s.nt).map fun t => concV ρ ((slotsAt s bits (R.take i).reverse i).get t)).toArray, a.defers⟩
    have hget2 : ∀ t, (slotsAt s bits (R.take i).reverse i).get t = match newestW s.nt R t (bitOf bits i) i with | some (_, v) => v | none => s.get t := fun t =>
      sfind_wrs s.nt R (bitOf bits i) s.l t i (by have := (List.getElem?_eq_some_iff.1 hr).1; omega)
    have hs2 : SlotsOk ρ (fun y => alD al R D y ∧ y < r.lo) (slotsAt s bits (R.take i).reverse i) a2 := by
      refine ⟨by simp [a2, hsd], fun t => ?_, fun t => ?_⟩
      · by_cases ht : t < s.nt
        · simp [a2, ht]
        · have h1 : a2.tmps.getD t Go.undef = Go.undef := by simp [a2, ht]
          rw [h1, hget2, newestW_big ht]
          show Go.undef = concV ρ (s.get t)
          rw [concV_agree hag0 (hs0 t)]
          exact (hbig t ht).symm
      · rw [hget2]
        cases hm : newestW s.nt R t (bitOf bits i) i with
        | none => exact AV.ok_mono (fun x hx => ⟨.inl hx, Nat.lt_of_lt_of_le (hal0 x hx) (G.lo_n hr).1⟩) (hs0 t)
        | some y =>
          obtain ⟨j, v⟩ := y
          obtain ⟨h1, h2, h3, ⟨rj, h4, h5, h6⟩, _⟩ := newestW_some hm
          subst h6
          exact AV.ok_mono (fun x hx => ⟨hx.1, Nat.lt_of_lt_of_le hx.2 (G.chain h4 hr h1)⟩) (I.vok j rj h4 (hc.deps j h2))
    have hsel : ∀ cs b, oi.op ≠ .select cs b := fun cs b e => by simp [evOp, e] at hev
    have hex : execOp a.eval oi = execOp a2.eval oi := by
      refine execOp_congr oi hsel fun x hx => ?_
      cases x with
      | tmp t =>
        have ht : t ∈ oi.looksAt ops := List.mem_append_left _ (List.mem_filterMap.2 ⟨.tmp t, by simpa using hx, rfl⟩)
        show a.tmps.getD t undef = a2.tmps.getD t undef
        rw [hat t ht, hs2.at_ t]
      | _ => rfl
    have hrep' : Rep E B0 ⟨[] :: heapAt bits hs C (R.take i).reverse i, fun y => alD al R D y ∧ y < r.lo, loOf R n i, ρ, w⟩ := by rw [← hrec.lo]; exact hrep
    refine evOp_goes hrep' hE hs2 hcall hev a K Q hex ?_
    intro δ ρ' al' w' hd hst hvok
    have hδ : δ = r.δ := by simpa using hd.symm
    subst hδ
    rw [← hrec.lo] at hst
    exact hK ρ' _ w' (inv_step G I hal hal0 hs0 hr ho hc hD' hst hvok)

theorem getD_set (l : Array Bool) (i j : Nat) (hi : i < l.size) : (l.setIfInBounds i true).getD j false = (j == i || l.getD j false) := by
  by_cases e : j = i
  · subst e; simp [hi]
  · have e' : ¬ i = j := fun h => e h.symm
    simp [Array.getElem?_setIfInBounds_ne e', e]

def DD (l : Array Bool) (j : Nat) : Bool := l.getD j false

theorem closed_bits (G : Reg E call ops bits hs C s R n nm) (D : Nat → Bool) (hcl : ∀ k o, ops[k]? = some o → D k = true → ∀ e ∈ o.after, Region.binds .any e = true → D e.on = true) :
    ∀ (k : Nat) (o : Oper), ops[k]? = some o → (∀ e ∈ o.after, Region.binds .any e = true → D e.on = true) → ∀ x, bitOf bits k x = true → D x = true := by
  intro k
  induction k using Nat.strongRecOn with
  | _ k ih =>
    intro o ho hd x hx
    obtain ⟨hxk, e, he, hbe, hor⟩ := G.bitsE k o ho x hx
    rcases hor with h | h
    · rw [← h]; exact hd e he hbe
    · have hek := G.edges k o ho e he hbe
      have hks : k < ops.size := (Array.getElem?_eq_some_iff.1 ho).1
      obtain ⟨oe, hoe⟩ : ∃ oe, ops[e.on]? = some oe := ⟨_, Array.getElem?_eq_getElem (by omega)⟩
      exact ih e.on hek oe hoe (hcl e.on oe hoe (hd e he hbe)) x h

/-- Whatever order is drawn. -/
theorem draw_any (hE : EnvOk P E) (hcall : CallOk P E B0 call) (G : Reg E call ops bits hs C s R n nm) (hal : ∀ x o, get C x = some o → x < n ∧ o.ok (fun y => y < n)) (hal0 : ∀ x, al x → x < n)
    (hs0 : ∀ t, (s.get t).ok al) (hbig : ∀ t, ¬ t < s.nt → concV ρ0 (s.get t) = Go.undef) {Q : Exit → Act → World → Prop} (hQ : ∀ D ρ a w, (∀ j, j < ops.size → D j = true) → Inv E B0 bits hs C s R n nm al ρ0 w0 df D ρ a w → Q .normal a w) :
    ∀ (fuel : Nat) (listed : Array Bool) (ρ : Rho) (a : Act) (w : World), listed.size = ops.size → ((List.range ops.size).filter fun j => !DD listed j).length ≤ fuel →
      (∀ k o, ops[k]? = some o → DD listed k = true → ∀ e ∈ o.after, Region.binds .any e = true → DD listed e.on = true) → Inv E B0 bits hs C s R n nm al ρ0 w0 df (DD listed) ρ a w → wpAny P .any ops Q fuel listed a w := by
  have done : ∀ (listed : Array Bool) (ρ : Rho) (a : Act) (w : World), listed.size = ops.size → Inv E B0 bits hs C s R n nm al ρ0 w0 df (DD listed) ρ a w → Region.ready .any ops listed = [] → Q .normal a w := by
    intro listed ρ a w hsz I hr
    refine hQ (DD listed) ρ a w ?_ I
    intro j
    induction j using Nat.strongRecOn with
    | _ j ih =>
      intro hj
      cases hd : DD listed j with
      | true => rfl
      | false =>
        exfalso
        have hmem : j ∈ Region.ready .any ops listed := by
          refine mem_ready.2 ⟨?_, ops[j], Array.getElem?_eq_getElem hj, fun e he hbe => ?_⟩
          · have : j < listed.size := by omega
            simp only [DD, Array.getD_eq_getD_getElem?, Array.getElem?_eq_getElem this, Option.getD_some] at hd
            simp [Array.getElem?_eq_getElem this, hd]
          · have := G.edges j _ (Array.getElem?_eq_getElem hj) e he hbe
            exact ih e.on this (by omega)
        rw [hr] at hmem
        cases hmem
  intro fuel
  induction fuel with
  | zero =>
    intro listed ρ a w hsz hf hcl I
    have hnil : Region.ready .any ops listed = [] := by
      cases hr : Region.ready .any ops listed with
      | nil => rfl
      | cons i l =>
        exfalso
        have hi : i ∈ Region.ready .any ops listed := by rw [hr]; simp
        obtain ⟨h1, o, ho, _⟩ := mem_ready.1 hi
        have hio : i < ops.size := (Array.getElem?_eq_some_iff.1 ho).1
        have : i ∈ (List.range ops.size).filter fun j => !DD listed j := by
          refine List.mem_filter.2 ⟨List.mem_range.2 hio, ?_⟩
          have hil : i < listed.size := by omega
          simp only [Array.getD_eq_getD_getElem?, Array.getElem?_eq_getElem hil, Option.getD_some] at h1
          simp [DD, Array.getElem?_eq_getElem hil, h1]
        have := List.length_pos_of_mem this
        omega
    exact ⟨hnil, done listed ρ a w hsz I hnil⟩
  | succ fuel ih =>
    intro listed ρ a w hsz hf hcl I
    refine ⟨fun hr => done listed ρ a w hsz I hr, fun i hi => ?_⟩
    obtain ⟨h1, o, ho, hall⟩ := mem_ready.1 hi
    have hio : i < ops.size := (Array.getElem?_eq_some_iff.1 ho).1
    have hil : i < listed.size := by omega
    have hun : DD listed i = false := by
      simp only [Array.getD_eq_getD_getElem?, Array.getElem?_eq_getElem hil, Option.getD_some] at h1
      simp [DD, Array.getElem?_eq_getElem hil, h1]
    have hdeps : ∀ e ∈ o.after, Region.binds .any e = true → DD listed e.on = true := fun e he hbe => hall e he hbe
    have hc : CanCome bits (DD listed) i := by
      refine ⟨hun, fun j hb => closed_bits G (DD listed) hcl i o ho hdeps j hb, fun j k hD hb => ?_⟩
      have hk : k < ops.size := by
        rcases Nat.lt_or_ge k ops.size with h | h
        · exact h
        · simp [DD, Array.getElem?_eq_none (show listed.size ≤ k by omega)] at hD
      exact closed_bits G (DD listed) hcl k _ (Array.getElem?_eq_getElem hk) (hcl k _ (Array.getElem?_eq_getElem hk) hD) j hb
    have hD' : ∀ j, DD (listed.setIfInBounds i true) j = (j == i || DD listed j) := fun j => getD_set listed i j hil
    refine op_comes hE hcall G I hal hal0 hs0 hbig ho hc hD' fun ρ' a' w' I' => ih _ ρ' a' w' (by simpa using hsz) ?_ ?_ I'
    · have hlt : ((List.range ops.size).filter fun j => !DD (listed.setIfInBounds i true) j).length < ((List.range ops.size).filter fun j => !DD listed j).length := by
        have e : ((List.range ops.size).filter fun j => !DD (listed.setIfInBounds i true) j) = (((List.range ops.size).filter fun j => !DD listed j).filter fun j => !(j == i)) := by
          rw [List.filter_filter]
          refine List.filter_congr fun j _ => ?_
          rw [hD']
          cases (j == i) <;> cases DD listed j <;> rfl
        rw [e]
        refine List.length_filter_lt_length_iff_exists.2 ⟨i, List.mem_filter.2 ⟨List.mem_range.2 hio, by simp [hun]⟩, by simp⟩
      omega
    · intro k o' ho' hk e he hbe
      rw [hD'] at hk ⊢
      simp only [Bool.or_eq_true, beq_iff_eq] at hk ⊢
      rcases hk with h | h
      · subst h
        rw [ho] at ho'
        simp only [Option.some.injEq] at ho'; subst ho'
        exact .inr (hdeps e he hbe)
      · exact .inr (hcl k o' ho' h e he hbe)

end
end Go.Proofs.YtdpielghjaehbaaGreat.Ev

/- The evaluator is sound: regions that draw their order, as the evaluator goes through them; code; calls. -/
set_option linter.unusedSectionVars false
set_option linter.unusedSimpArgs false
set_option linter.unusedVariables false
namespace Go.Proofs.YtdpielghjaehbaaGreat.Ev
open Go.RowKit

theorem subIds_spec {xs ys : List Nat} (h : subIds xs ys = true) {x : Nat} (hx : x ∈ xs) : x ∈ ys := by
  have := List.all_eq_true.1 h x hx
  obtain ⟨y, hy, e⟩ := List.any_eq_true.1 this
  rw [beq_iff_eq.1 e]; exact hy

theorem subAll_spec : ∀ (xs ys : List (List Nat)), subAll xs ys = true → ∀ k x l, xs[k]? = some l → x ∈ l → x ∈ ys.getD k []
  | [], ys, _, k, x, l, hl, _ => by simp at hl
  | a :: xs, [], h, k, x, l, hl, hx => by
    simp only [subAll, Bool.and_eq_true] at h
    cases k with
    | zero =>
      simp only [List.getElem?_cons_zero, Option.some.injEq] at hl; subst hl
      rw [List.isEmpty_iff.1 h.1] at hx; cases hx
    | succ k => have := subAll_spec xs [] h.2 k x l (by simpa using hl) hx; simp at this
  | a :: xs, b :: ys, h, k, x, l, hl, hx => by
    simp only [subAll, Bool.and_eq_true] at h
    cases k with
    | zero =>
      simp only [List.getElem?_cons_zero, Option.some.injEq] at hl; subst hl
      simpa using subIds_spec h.1 hx
    | succ k => simpa using subAll_spec xs ys h.2 k x l (by simpa using hl) hx

theorem laters_at (bits : List Nat) (all : List Rec) (m : Nat) : ∀ (R : List Rec) (k0 i : Nat) (r : Rec), R[i]? = some r → (laters bits all m R k0)[i]? = some (laterIds bits (k0 + i) r.lo all m)
  | [], k0, i, r, h => by simp at h
  | a :: R, k0, i, r, h => by
    cases i with
    | zero =>
      simp only [List.getElem?_cons_zero, Option.some.injEq] at h; subst h
      simp [laters]
    | succ i =>
      simp only [laters, List.getElem?_cons_succ] at h ⊢
      rw [laters_at bits all m R (k0 + 1) i r h]
      congr 2
      omega

theorem look_mem : ∀ {δ : Seg} {x : Nat} {o : Option AObj}, look δ x = some o → x ∈ δ.map (·.1)
  | [], x, o, h => by simp [look] at h
  | (y, o') :: δ, x, o, h => by
    simp only [look] at h
    by_cases e : (y == x) = true
    · have := beq_iff_eq.1 e; subst this; simp
    · rw [if_neg e] at h; exact List.mem_cons_of_mem _ (look_mem h)

theorem laterIds_mem (bits : List Nat) (k lo : Nat) (R : List Rec) : ∀ (q : Nat), q ≤ R.length → ∀ (j : Nat) (rj : Rec) (x : Nat), k < j → j < q → R[j]? = some rj → bitOf bits j k = false → In rj.δ x → x < lo → x ∈ laterIds bits k lo (R.take q).reverse q
  | 0, _, j, rj, x, _, hj, _, _, _, _ => by omega
  | q + 1, hq, j, rj, x, hkj, hj, hr, hb, hx, hlo => by
    rw [take_succ_rev R q (by omega)]
    simp only [laterIds, Nat.add_sub_cancel]
    rw [if_neg (by omega)]
    by_cases e : j = q
    · subst e
      have : R[j] = rj := by
        rw [List.getElem?_eq_getElem (by omega)] at hr
        simpa using hr
      rw [hb, this]
      simp only [Bool.false_eq_true, if_false]
      refine List.mem_append_left _ (List.mem_filter.2 ⟨?_, by simpa using hlo⟩)
      obtain ⟨o, ho⟩ := hx
      exact look_mem ho
    · exact List.mem_append_right _ (laterIds_mem bits k lo R q (by omega) j rj x hkj (by omega) hr hb hx hlo)

theorem flat_append (rs : List Rec) (d : Seg) : flat rs d = flat rs [] ++ d := by
  induction rs with
  | nil => rfl
  | cons r rs ih => simp only [flat]; rw [ih, List.append_assoc]

theorem look_flat (R : List Rec) (x : Nat) : ∀ k, k ≤ R.length → look (flat (R.take k).reverse []) x = (newest R x (fun _ => true) k).map (·.2)
  | 0, _ => by simp [flat, newest, look]
  | k + 1, hk => by
    rw [take_succ_rev R k (by omega)]
    simp only [flat, look_append, newest, List.getElem?_eq_getElem (show k < R.length by omega), if_true]
    cases hl : look R[k].δ x with
    | some o => rfl
    | none => exact look_flat R x k (by omega)

theorem statGo_spec (ops : Array Oper) (bits : List Nat) : ∀ (l : List Oper) (k : Nat), statGo ops bits l k = true → ∀ j o, l[j]? = some o →
    (∀ e ∈ o.after, edgeOk (k + j) e = true) ∧ (∀ x, x < k + j → bitOk bits o (k + j) x = true) ∧ bits.getD (k + j) 0 < 2 ^ (k + j) ∧ pairsOk ops bits o (k + j) ops.toList 0 = true
  | [], k, h, j, o, ho => by simp at ho
  | a :: l, k, h, j, o, ho => by
    simp only [statGo, Bool.and_eq_true, decide_eq_true_eq] at h
    obtain ⟨⟨⟨⟨h1, h2⟩, h3⟩, h4⟩, h5⟩ := h
    cases j with
    | zero =>
      simp only [List.getElem?_cons_zero, Option.some.injEq] at ho; subst ho
      exact ⟨fun e he => List.all_eq_true.1 h1 e (Array.mem_toList_iff.2 he), fun x hx => List.all_eq_true.1 h2 x (List.mem_range.2 hx), h3, h4⟩
    | succ j =>
      have := statGo_spec ops bits l (k + 1) h5 j o (by simpa using ho)
      have e : k + 1 + j = k + (j + 1) := by omega
      rwa [e] at this

theorem pairsOk_spec (ops : Array Oper) (bits : List Nat) (o : Oper) (k : Nat) : ∀ (l : List Oper) (i0 : Nat), pairsOk ops bits o k l i0 = true → ∀ j p, l[j]? = some p → i0 + j < k → bitOf bits k (i0 + j) = true ∨ p.apart ops o = true
  | [], i0, h, j, p, hp, _ => by simp at hp
  | a :: l, i0, h, j, p, hp, hlt => by
    simp only [pairsOk, Bool.and_eq_true] at h
    cases j with
    | zero =>
      simp only [List.getElem?_cons_zero, Option.some.injEq] at hp; subst hp
      rw [if_pos (by omega)] at h
      simpa using h.1
    | succ j =>
      have := pairsOk_spec ops bits o k l (i0 + 1) h.2 j p (by simpa using hp) (by omega)
      have e : i0 + 1 + j = i0 + (j + 1) := by omega
      rwa [e] at this

section
variable {P : Program} {E : Env} {B0 : Nat} {call : CallF} {ops : Array Oper} {B : List Seg} {s s' : Slots} {n n' : Nat} {d d' : Seg} {al : Nat → Prop} {ρ : Rho} {w : World} {a : Act}

theorem reg_of {bits : List Nat} {hs : List (List Nat)} {C : List Seg} {rs : List Rec} (hb : bits = (befGo ops.toList []).reverse) (hst : statOk ops = true) (hgo : evDrawGo E call ops.toList bits hs C s ops.toList 0 [] n = some (rs, n'))
    (hsub : subAll (laters bits rs ops.toList.length rs.reverse 0) hs = true) : ∃ R, rs = R.reverse ∧ Reg E call ops bits hs C s R n n' := by
  obtain ⟨R, e1, e2, e3, e4⟩ := drawGo_recs ops.toList 0 [] n rs n' hgo
  simp only [List.append_nil] at e1
  subst e1
  have hstat := statGo_spec ops bits ops.toList 0 (by rw [hb]; exact hst)
  simp only [Nat.zero_add] at hstat
  refine ⟨R, rfl, ⟨by rw [e2]; simp, ?_, ?_, ?_, ?_, ?_, ?_⟩⟩
  · intro k o r ho hr
    have := e3 k o r (by simpa using ho) hr
    simp only [Nat.zero_add, List.append_nil] at this
    cases k <;> exact this
  · rw [e4]
    cases hl : R.length with
    | zero =>
      have : R = [] := List.eq_nil_of_length_eq_zero hl
      subst this; rfl
    | succ m =>
      simp only [loOf]
      rw [List.getLast?_eq_getElem?, hl, Nat.add_sub_cancel, List.getElem?_eq_getElem (by omega)]
      rfl
  · intro i j ri rj x hij hi hj hbit hx hlo
    rw [List.reverse_reverse] at hsub
    have h1 := laters_at bits R.reverse ops.toList.length R 0 i ri hi
    rw [Nat.zero_add] at h1
    have hjl := (List.getElem?_eq_some_iff.1 hj).1
    have h2 := laterIds_mem bits i ri.lo R R.length (Nat.le_refl _) j rj x hij hjl hj hbit hx hlo
    rw [List.take_length, e2] at h2
    exact subAll_spec _ _ hsub i x _ h1 h2
  · intro k o ho e he hbe
    have := (hstat k o (by simpa using ho)).1 e he
    simpa [edgeOk, hbe] using this
  · intro k o ho x hx
    obtain ⟨_, h2, h3, _⟩ := hstat k o (by simpa using ho)
    have hlt : x < k := by
      rcases Nat.lt_or_ge x k with h | h
      · exact h
      · exfalso
        have : bits.getD k 0 < 2 ^ x := Nat.lt_of_lt_of_le h3 (Nat.pow_le_pow_right (by omega) h)
        rw [bitOf, Nat.testBit_lt_two_pow this] at hx
        cases hx
    refine ⟨hlt, ?_⟩
    have := h2 x hlt
    simp only [bitOk, hx, Bool.not_true, Bool.false_or] at this
    obtain ⟨e, he, hq⟩ := List.any_eq_true.1 this
    simp only [Bool.and_eq_true, Bool.or_eq_true, beq_iff_eq] at hq
    exact ⟨e, Array.mem_toList_iff.1 he, hq.1, hq.2⟩
  · intro i k p o hik hp ho
    obtain ⟨_, _, _, h4⟩ := hstat k o (by simpa using ho)
    have := pairsOk_spec ops bits o k ops.toList 0 h4 i p (by simpa using hp) (by omega)
    simpa using this

theorem rep_world {S : St} (h : Rep E B0 S) {w' : World} (hw : w'.heap = S.w.heap) : Rep E B0 { S with w := w' } where
  obj i o ho := by have := h.obj i o ho; simp only [hw]; exact this
  lo := h.lo
  inj := h.inj
  al := h.al
  lt := h.lt
  base := by simp only [hw]; exact h.base
  mem b o v hv := ⟨(h.mem b o v hv).1, by simp only; rw [cell_of_heap (w := S.w) (by rw [hw])]; exact (h.mem b o v hv).2⟩

theorem newest_nothing (R : List Rec) (x : Nat) (p : Nat → Bool) (h : ∀ j, p j = false) : ∀ k, newest R x p k = none
  | 0 => rfl
  | k + 1 => by simp only [newest, h, Bool.false_eq_true, if_false, newest_nothing R x p h k]; cases R[k]? <;> rfl

theorem newestW_nothing (nt : Nat) (R : List Rec) (t : Nat) (p : Nat → Bool) (h : ∀ j, p j = false) : ∀ k, newestW nt R t p k = none
  | 0 => rfl
  | k + 1 => by simp only [newestW, h, Bool.false_eq_true, false_and, if_false, newestW_nothing nt R t p h k]; cases R[k]? <;> rfl

theorem region_ok (hE : EnvOk P E) (hcall : CallOk P E B0 call) {id : Nat} (hst : statOk ops = true) (h : Rep E B0 ⟨d :: B, al, n, ρ, w⟩) (hs : SlotsOk ρ al s a) (hev : evDraw E call ops.toList B s d n = some (s', d', n')) {Q : Exit → Act → World → Prop}
    (hq : ∀ δ ρ' al' w' a', d' = δ ++ d → Step E B0 (In δ) ⟨d :: B, al, n, ρ, w⟩ ⟨d' :: B, al', n', ρ', w'⟩ → SlotsOk ρ' al' s' a' → a'.defers = a.defers → Q .normal a' w') : (Code.region id ops true).wp P Q a w := by
  -- the records
  have key : ∃ hints R, Reg E call ops (befGo ops.toList []).reverse hints (d :: B) s R n n' ∧ s' = sD s R (fun _ => true) ∧ d' = flat R.reverse d := by
    have hm : ops.toList.length = ops.size := by simp
    unfold evDraw at hev
    simp only at hev
    split at hev
    · cases hev
    · rename_i rs n1 hgo
      split at hev
      · rename_i hsub
        simp only [Option.some.injEq, Prod.mk.injEq] at hev
        obtain ⟨rfl, rfl, rfl⟩ := hev
        obtain ⟨R, rfl, G⟩ := reg_of rfl hst hgo hsub
        exact ⟨_, R, G, by rw [sD, G.len, hm], rfl⟩
      · split at hev
        · cases hev
        · rename_i rs' n2 hgo'
          split at hev
          · rename_i hsub
            simp only [Option.some.injEq, Prod.mk.injEq] at hev
            obtain ⟨rfl, rfl, rfl⟩ := hev
            obtain ⟨R, rfl, G⟩ := reg_of rfl hst hgo' hsub
            exact ⟨_, R, G, by rw [sD, G.len, hm], rfl⟩
          · cases hev
  obtain ⟨hints, R, G, rfl, rfl⟩ := key
  have hal : ∀ x o, get (d :: B) x = some o → x < n ∧ o.ok (fun y => y < n) := fun x o ho => ⟨h.lt x (h.al x o ho).1, AObj.ok_mono (fun y hy => h.lt y hy) (h.al x o ho).2⟩
  have hal0 : ∀ x, al x → x < n := fun x hx => h.lt x hx
  have hbig : ∀ t, ¬ t < s.nt → concV ρ (s.get t) = Go.undef := fun t ht => by
    rw [← hs.at_ t]
    have : ¬ t < a.tmps.size := by rw [hs.size]; exact ht
    simp [this]
  have hfalse : ∀ j, DD (Array.replicate ops.size false) j = false := fun j => by
    simp only [DD, Array.getD_eq_getD_getElem?]
    by_cases hj : j < ops.size <;> simp [hj]
  have hnn : n ≤ n' := by
    have := G.lo_le R.length 0 (by omega) (Nat.le_refl _)
    rw [G.top]; exact this
  have I0 : Inv E B0 (befGo ops.toList []).reverse hints (d :: B) s R n n' al ρ w a.defers (DD (Array.replicate ops.size false)) ρ a { w with drawn := w.drawn + 1 } := by
    have hg : ∀ x, get (HD (d :: B) R (DD (Array.replicate ops.size false))) x = get (d :: B) x := fun x => by rw [get_HD, newest_nothing R x _ hfalse]
    have ha : ∀ x, al x → alD al R (DD (Array.replicate ops.size false)) x := fun x hx => .inl hx
    refine { rep := ?_, ssz := hs.size, sat := ?_, df := rfl, vok := fun j r _ hD => (by rw [hfalse] at hD; cases hD), cok := fun j r x o _ hD => (by rw [hfalse] at hD; cases hD), idl := fun j r x _ hD => (by rw [hfalse] at hD; cases hD),
             agree := fun _ _ => rfl, live := fun x ⟨j, r, _, hD, _⟩ => (by rw [hfalse] at hD; cases hD), size := Nat.le_refl _, frame := fun _ _ _ => rfl, newb := ?_, misc := ⟨rfl, rfl, rfl⟩ }
    · exact { obj := fun x o ho => h.obj x o (by rw [← hg]; exact ho), lo := fun x o ho => h.lo x o (by rw [← hg]; exact ho), inj := fun x y o p hx hy => h.inj x y o p (by rw [← hg]; exact hx) (by rw [← hg]; exact hy),
              al := fun x o ho => ⟨ha x (h.al x o (by rw [← hg]; exact ho)).1, AObj.ok_mono ha (h.al x o (by rw [← hg]; exact ho)).2⟩,
              lt := fun x hx => (by
                rcases hx with hx | ⟨j, r, _, hD, _⟩
                · exact Nat.lt_of_lt_of_le (hal0 x hx) hnn
                · rw [hfalse] at hD; cases hD), base := h.base, mem := h.mem }
    · intro t
      rw [hs.at_ t, get_sD, newestW_nothing _ R t _ hfalse]
    · intro x o hx ho
      rw [hg] at ho
      have := (hal x o ho).1
      omega
  refine wp_region_any hE.mixed (draw_any hE hcall G hal hal0 hs.ok hbig (fun D ρ' a' w' hD I => ?_) ops.size _ ρ a _ (by simp) ?_ (fun k o _ hk => (by rw [hfalse] at hk; cases hk)) I0)
  · have hDR : ∀ j r, R[j]? = some r → D j = true := fun j r hr => hD j (by rw [← G.len]; exact (List.getElem?_eq_some_iff.1 hr).1)
    have hg : ∀ x, get (flat R.reverse d :: B) x = get (HD (d :: B) R D) x := by
      intro x
      rw [flat_append, get_append, get_HD]
      have := look_flat R x R.length (Nat.le_refl _)
      rw [List.take_length] at this
      rw [this, newest_p R x D (fun _ => true) R.length (fun j r _ hr _ => hDR j r hr)]
      cases newest R x (fun _ => true) R.length <;> rfl
    have hT : ∀ x, In (flat R.reverse []) x ↔ TD R D x := by
      intro x
      have hl := look_flat R x R.length (Nat.le_refl _)
      rw [List.take_length] at hl
      unfold In
      rw [hl]
      constructor
      · rintro ⟨o, ho⟩
        cases hn : newest R x (fun _ => true) R.length with
        | none => rw [hn] at ho; cases ho
        | some y =>
          obtain ⟨j, o'⟩ := y
          obtain ⟨h1, _, ⟨r, h3, h4⟩, _⟩ := newest_some hn
          exact ⟨j, r, h3, hDR j r h3, _, h4⟩
      · rintro ⟨j, r, h1, _, o, ho⟩
        cases hn : newest R x (fun _ => true) R.length with
        | none => rw [newest_none hn j r (List.getElem?_eq_some_iff.1 h1).1 rfl h1] at ho; cases ho
        | some y => exact ⟨y.2, rfl⟩
    have halD : ∀ x, alD al R D x ↔ al x ∨ (n ≤ x ∧ x < n') := by
      intro x
      constructor
      · rintro (h | ⟨j, r, h1, h2, h3, h4⟩)
        · exact .inl h
        · have := G.lo_n h1; exact .inr ⟨by omega, by omega⟩
      · rintro (h | ⟨h1, h2⟩)
        · exact .inl h
        · right
          -- the record whose numbers these are
          have : ∀ k, k ≤ R.length → x < loOf R n k → ∃ (j : Nat) (r : Rec), R[j]? = some r ∧ r.lo ≤ x ∧ x < r.hi := by
            intro k
            induction k with
            | zero => intro _ h; simp only [loOf] at h; omega
            | succ k ih =>
              intro hk hlt
              obtain ⟨r, hr⟩ : ∃ r, R[k]? = some r := ⟨_, List.getElem?_eq_getElem (by omega)⟩
              obtain ⟨g1, g2, g3⟩ := G.lo hr
              by_cases hx : r.lo ≤ x
              · exact ⟨k, r, hr, hx, by omega⟩
              · exact ih (by omega) (by omega)
          obtain ⟨j, r, h3, h4, h5⟩ := this R.length (Nat.le_refl _) (by rw [← G.top]; exact h2)
          exact ⟨j, r, h3, hDR j r h3, h4, h5⟩
    refine hq (flat R.reverse []) ρ' (alD al R D) w' a' (flat_append _ _) ?_ ?_ I.df
    · refine { rep := ?_, al_eq := halD, n_le := hnn, agree := I.agree, kept := ?_, live := fun x hx hxn => I.live x ((hT x).1 hx) hxn, ids := ?_, size := I.size, frame := fun b hb hb' => I.frame b hb (fun x hx hxn => hb' x ((hT x).2 hx) hxn), newb := ?_, misc := I.misc }
      · exact { obj := fun x o ho => I.rep.obj x o (by simp only [hg] at ho; exact ho), lo := fun x o ho => I.rep.lo x o (by simp only [hg] at ho; exact ho),
                inj := fun x y o p hx hy => I.rep.inj x y o p (by simp only [hg] at hx; exact hx) (by simp only [hg] at hy; exact hy),
                al := fun x o ho => I.rep.al x o (by simp only [hg] at ho; exact ho), lt := I.rep.lt, base := I.rep.base, mem := I.rep.mem }
      · intro x hx
        simp only
        rw [flat_append]; exact get_kept hx
      · intro x hx
        obtain ⟨j, r, h1, h2, h3⟩ := (hT x).1 hx
        have := (I.idl j r x h1 h2 h3).1
        have := (G.lo_n h1).2
        simp only; omega
      · intro x o hx ho
        simp only [hg] at ho
        rcases I.newb x o hx ho with h | ⟨j, hj, r⟩
        · exact .inl h
        · exact .inr ⟨j, (hT j).2 hj, r⟩
    · have hsl : ∀ t, (sD s R (fun _ => true)).get t = (sD s R D).get t := fun t => by
        rw [get_sD, get_sD, newestW_p _ R t D (fun _ => true) R.length (fun j r _ hr _ => hDR j r hr)]
      refine ⟨I.ssz, fun t => by rw [hsl]; exact I.sat t, fun t => ?_⟩
      rw [hsl, get_sD]
      cases hm : newestW s.nt R t D R.length with
      | none => exact AV.ok_mono (fun x hx => .inl hx) (hs.ok t)
      | some y =>
        obtain ⟨j, v⟩ := y
        obtain ⟨h1, h2, h3, ⟨rj, h4, h5, h6⟩, _⟩ := newestW_some hm
        subst h6
        exact AV.ok_mono (fun x hx => hx.1) (I.vok j rj h4 h2)
  · refine Nat.le_trans (List.length_filter_le _ _) (by simp)

end
end Go.Proofs.YtdpielghjaehbaaGreat.Ev

/- The evaluator is sound: code, calls, and what a call's result is worth. -/
set_option linter.unusedSectionVars false
set_option linter.unusedSimpArgs false
set_option linter.unusedVariables false
namespace Go.Proofs.YtdpielghjaehbaaGreat.Ev
open Go.RowKit

def exitOf : AX → Exit
  | .norm => .normal
  | .exit id => .exit id
  | .ret => .ret

section
variable {P : Program} {E : Env} {B0 : Nat}

/-- What is known behind a piece of code. -/
def Post (E : Env) (B0 : Nat) (B : List Seg) (d : Seg) (n : Nat) (al : Nat → Prop) (ρ : Rho) (w : World) (a : Act) (x : AX) (s' : Slots) (d' : Seg) (n' : Nat) (Q : Exit → Act → World → Prop) : Prop :=
  ∀ δ ρ' al' w' a', d' = δ ++ d → Step E B0 (In δ) ⟨d :: B, al, n, ρ, w⟩ ⟨d' :: B, al', n', ρ', w'⟩ → SlotsOk ρ' al' s' a' → a'.defers = a.defers → Q (exitOf x) a' w'

def CodeOk (P : Program) (E : Env) (B0 : Nat) (rec : CodeF) : Prop :=
  ∀ c B s d n x s' d' n' al ρ w a Q, rec c B s d n = some (x, s', d', n') → codeOk c = true → Rep E B0 ⟨d :: B, al, n, ρ, w⟩ → SlotsOk ρ al s a → Post E B0 B d n al ρ w a x s' d' n' Q → c.wp P Q a w

def RoundsOk (P : Program) (E : Env) (B0 : Nat) (rec : CodeF) (k : Nat) : Prop :=
  ∀ c B s d n x s' d' n' al ρ w a Q, rec (.loop c) B s d n = some (x, s', d', n') → codeOk c = true → Rep E B0 ⟨d :: B, al, n, ρ, w⟩ → SlotsOk ρ al s a → Post E B0 B d n al ρ w a x s' d' n' Q → Code.rounds P c Q k a w

theorem Post.after {B : List Seg} {d d1 : Seg} {n n1 : Nat} {al al1 : Nat → Prop} {ρ ρ1 : Rho} {w w1 : World} {a a1 : Act} {x : AX} {s' : Slots} {d' : Seg} {n' : Nat} {Q : Exit → Act → World → Prop} {δ : Seg}
    (hq : Post E B0 B d n al ρ w a x s' d' n' Q) (hd : d1 = δ ++ d) (hst : Step E B0 (In δ) ⟨d :: B, al, n, ρ, w⟩ ⟨d1 :: B, al1, n1, ρ1, w1⟩) (hdf : a1.defers = a.defers) : Post E B0 B d1 n1 al1 ρ1 w1 a1 x s' d' n' Q :=
  fun δ2 ρ2 al2 w2 a2 hd2 hst2 hs2 hdf2 => hq (δ2 ++ δ) ρ2 al2 w2 a2 (by rw [hd2, hd, List.append_assoc]) (hst.trans' hst2) hs2 (hdf2.trans hdf)

theorem rounds_step (hE : EnvOk P E) {rec : CodeF} {call : CallF} {k : Nat} (hrec : CodeOk P E B0 rec) (hro : RoundsOk P E B0 rec k) : RoundsOk P E B0 (codeStep E call rec) (k + 1) := by
  intro c B s d n x s' d' n' al ρ w a Q hev hok h hs hq
  rw [rounds_succ]
  simp only [codeStep] at hev
  split at hev
  · rename_i s1 d1 n1 h1
    refine hrec c B s d n .norm s1 d1 n1 al ρ w a _ h1 hok h hs ?_
    intro δ ρ1 al1 w1 a1 hd hst hs1 hdf
    exact hro c B s1 d1 n1 x s' d' n' al1 ρ1 w1 a1 Q hev hok hst.rep hs1 (hq.after hd hst hdf)
  · rename_i hne
    refine hrec c B s d n x s' d' n' al ρ w a _ hev hok h hs ?_
    intro δ ρ1 al1 w1 a1 hd hst hs1 hdf
    have := hq δ ρ1 al1 w1 a1 hd hst hs1 hdf
    cases x with
    | norm => exact absurd hev (hne s' d' n')
    | exit id => exact this
    | ret => exact this

theorem code_step (hE : EnvOk P E) {rec : CodeF} {call : CallF} {k : Nat} (hcall : CallOk P E B0 call) (hrec : CodeOk P E B0 rec) (hro : RoundsOk P E B0 rec k) : CodeOk P E B0 (codeStep E call rec) := by
  intro c B s d n x s' d' n' al ρ w a Q hev hok h hs hq
  have here : some (x, s', d', n') = some (AX.norm, s, d, n) → Q .normal a w := fun e => by
    simp only [Option.some.injEq, Prod.mk.injEq] at e
    obtain ⟨rfl, rfl, rfl, rfl⟩ := e
    exact hq [] ρ al w a rfl (Step.refl h) hs rfl
  cases c with
  | skip => exact wp_skip (here (by simpa [codeStep] using hev.symm))
  | label l => exact wp_label (here (by simpa [codeStep] using hev.symm))
  | region id ops draw =>
    cases draw with
    | false =>
      simp only [codeStep] at hev
      split at hev
      · rename_i s1 d1 n1 h1
        simp only [Option.some.injEq, Prod.mk.injEq] at hev
        obtain ⟨rfl, rfl, rfl, rfl⟩ := hev
        refine wp_region ?_
        have := evOps_ok (Q := Q) hE hcall ops ops.toList 0 s s1 d d1 n n1 al ρ w a (fun j => by simp) h hs h1 (fun δ ρ' al' w' a' hd hst hs' hdf => hq δ ρ' al' w' a' hd hst hs' hdf)
        simpa using this
      · cases hev
    | true =>
      simp only [codeStep] at hev
      split at hev
      · rename_i s1 d1 n1 h1
        simp only [Option.some.injEq, Prod.mk.injEq] at hev
        obtain ⟨rfl, rfl, rfl, rfl⟩ := hev
        exact region_ok hE hcall hok h hs h1 hq
      · cases hev
  | seq c1 c2 =>
    simp only [codeOk, Bool.and_eq_true] at hok
    simp only [codeStep] at hev
    refine wp_seq ?_
    split at hev
    · rename_i s1 d1 n1 h1
      refine hrec c1 B s d n .norm s1 d1 n1 al ρ w a _ h1 hok.1 h hs ?_
      intro δ ρ1 al1 w1 a1 hd hst hs1 hdf
      exact hrec c2 B s1 d1 n1 x s' d' n' al1 ρ1 w1 a1 Q hev hok.2 hst.rep hs1 (hq.after hd hst hdf)
    · rename_i hne
      refine hrec c1 B s d n x s' d' n' al ρ w a _ hev hok.1 h hs ?_
      intro δ ρ1 al1 w1 a1 hd hst hs1 hdf
      have := hq δ ρ1 al1 w1 a1 hd hst hs1 hdf
      cases x with
      | norm => exact absurd hev (hne s' d' n')
      | exit id => exact this
      | ret => exact this
  | cond cx c1 c2 =>
    simp only [codeOk, Bool.and_eq_true] at hok
    simp only [codeStep] at hev
    split at hev
    · rename_i t ht
      refine wp_cond (t := t) (val_conc hs ht).1 ?_
      cases t with
      | true => exact hrec c1 B s d n x s' d' n' al ρ w a Q hev hok.1 h hs hq
      | false => exact hrec c2 B s d n x s' d' n' al ρ w a Q hev hok.2 h hs hq
    · cases hev
  | block id c1 =>
    simp only [codeStep] at hev
    refine wp_block ?_
    split at hev
    · rename_i j s1 d1 n1 h1
      simp only [Option.some.injEq, Prod.mk.injEq] at hev
      obtain ⟨rfl, rfl, rfl, rfl⟩ := hev
      refine hrec c1 B s d n (.exit j) s1 d1 n1 al ρ w a _ h1 hok h hs ?_
      intro δ ρ1 al1 w1 a1 hd hst hs1 hdf
      have := hq δ ρ1 al1 w1 a1 hd hst hs1 hdf
      show if j = id then Q .normal a1 w1 else Q (.exit j) a1 w1
      by_cases e : j = id
      · subst e
        simpa [exitOf] using this
      · have e' : (j == id) = false := by simpa using e
        rw [e'] at this
        rw [if_neg e]
        simpa [exitOf] using this
    · rename_i hne
      refine hrec c1 B s d n x s' d' n' al ρ w a _ hev hok h hs ?_
      intro δ ρ1 al1 w1 a1 hd hst hs1 hdf
      have := hq δ ρ1 al1 w1 a1 hd hst hs1 hdf
      cases x with
      | norm => exact this
      | exit j => exact absurd hev (hne j s' d' n')
      | ret => exact this
  | loop c1 => exact wp_loop_rounds (k + 1) (rounds_step hE hrec hro c1 B s d n x s' d' n' al ρ w a Q hev hok h hs hq)
  | exit id =>
    simp only [codeStep, Option.some.injEq, Prod.mk.injEq] at hev
    obtain ⟨rfl, rfl, rfl, rfl⟩ := hev
    exact wp_exit (hq [] ρ al w a rfl (Step.refl h) hs rfl)
  | ret =>
    simp only [codeStep, Option.some.injEq, Prod.mk.injEq] at hev
    obtain ⟨rfl, rfl, rfl, rfl⟩ := hev
    exact wp_ret (hq [] ρ al w a rfl (Step.refl h) hs rfl)
  | _ => simp [codeStep] at hev

/-! ### Calls -/

theorem sfind_args : ∀ (args : List AV) (k t : Nat), sfind (argSlots args k) t = if k ≤ t then (args[t - k]?).getD (.c .undef) else .c .undef
  | [], k, t => by simp [argSlots, sfind]
  | v :: r, k, t => by
    rw [argSlots, sfind_cons, sfind_args r (k + 1) t]
    by_cases e : k = t
    · subst e; simp
    · rw [if_neg e]
      by_cases h : k ≤ t
      · rw [if_pos h, if_pos (by omega)]
        have : t - k = (t - (k + 1)) + 1 := by omega
        rw [this, List.getElem?_cons_succ]
      · rw [if_neg h, if_neg (by omega)]

def resV (tmps : Array Value) : ResultVar → Sem Value
  | .tmp t => pure (tmps.getD t Go.undef)
  | .cell p t => do loadVar t (← asAddr (tmps.getD p Go.undef))

theorem results_eq (fn : Func) (tmps : Array Value) : results fn tmps = (do
    let vs ← fn.results.mapM (resV tmps)
    pure (if h : vs.size = 1 then vs[0] else .tuple vs)) := by
  unfold results
  congr 1

theorem result_ok (hE : EnvOk P E) {B : List Seg} {d : Seg} {al : Nat → Prop} {n : Nat} {ρ : Rho} {w : World} {s : Slots} {a : Act} (h : Rep E B0 ⟨d :: B, al, n, ρ, w⟩) (hs : SlotsOk ρ al s a) {r : ResultVar} {v : AV} (hv : resultOf E s (d :: B) r = some v) :
    (resV a.tmps r).run P w = .ok (concV ρ v) w ∧ v.ok al := by
  cases r with
  | tmp t =>
    simp only [resultOf, Option.some.injEq] at hv
    subst hv
    exact ⟨by rw [resV, hs.at_ t]; rfl, hs.ok t⟩
  | cell p t =>
    simp only [resultOf] at hv
    split at hv
    · rename_i r i off hr hp
      split at hv
      · rename_i e cs hob
        have hv' : (if isAggD r.desc then (if off + r.size ≤ cs.length then some (AV.agg ((cs.drop off).take r.size)) else none)
            else (match cs[off]? with
              | some x => some (.c x)
              | none => none)) = some v := by
          split at hv
          · rename_i ha
            split at hv <;> cases hv
            rename_i hle
            rw [if_pos ha, if_pos hle]
          · rename_i ha
            split at hv <;> cases hv
            rename_i c hc
            rw [if_neg ha, hc]
        obtain ⟨h1, h2⟩ := loadVar_run h hE hs hr hob hv'
        refine ⟨?_, h2⟩
        have hat := hs.at_ p
        rw [hp] at hat
        simp only [resV, Sem.run_bind, hat, concV, conc, asAddr, Sem.run_pure, Result.andThen_ok]
        exact h1
      · cases hv
    · cases hv

theorem results_ok (hE : EnvOk P E) {B : List Seg} {d : Seg} {al : Nat → Prop} {n : Nat} {ρ : Rho} {w : World} {s : Slots} {a : Act} (h : Rep E B0 ⟨d :: B, al, n, ρ, w⟩) (hs : SlotsOk ρ al s a) :
    ∀ (rs : List ResultVar) (l : List AC), resultsOf E s (d :: B) rs = some l → (rs.mapM (resV a.tmps)).run P w = .ok (concs ρ l) w ∧ (∀ c ∈ l, c.ok al) ∧ l.length = rs.length
  | [], l, hl => by
    simp only [resultsOf, Option.some.injEq] at hl
    subst hl
    exact ⟨rfl, fun _ hc => (by cases hc), rfl⟩
  | r :: rs, l, hl => by
    simp only [resultsOf] at hl
    split at hl
    · rename_i x l' h1 h2
      simp only [Option.some.injEq] at hl; subst hl
      obtain ⟨e1, k1⟩ := result_ok hE h hs h1
      obtain ⟨e2, k2, k3⟩ := results_ok hE h hs rs l' h2
      refine ⟨?_, ?_, by simp [k3]⟩
      · rw [List.mapM_cons]
        simp only [Sem.run_bind, e1, e2, Result.andThen_ok, Sem.run_pure]
        rfl
      · intro c hc
        cases hc with
        | head => exact k1
        | tail _ hc => exact k2 c hc
    · cases hl

theorem final_ok (hE : EnvOk P E) {B : List Seg} {d : Seg} {al : Nat → Prop} {n : Nat} {ρ : Rho} {w : World} {s : Slots} {a : Act} (h : Rep E B0 ⟨d :: B, al, n, ρ, w⟩) (hs : SlotsOk ρ al s a) {fn : Func} {v : AV} (hv : finalOf E s (d :: B) fn.results.toList = some v) :
    (results fn a.tmps).run P w = .ok (concV ρ v) w ∧ v.ok al := by
  have hmany : ∀ l, resultsOf E s (d :: B) fn.results.toList = some l → l.length ≠ 1 → (results fn a.tmps).run P w = .ok (.tuple (concs ρ l).toArray) w ∧ ∀ c ∈ l, c.ok al := by
    intro l hl hne
    obtain ⟨h1, h2, h3⟩ := results_ok hE h hs _ _ hl
    refine ⟨?_, h2⟩
    rw [results_eq, Array.mapM_eq_mapM_toList]
    simp only [Sem.run_bind, Sem.run_map]
    rw [h1]
    have hsz : ¬ (concs ρ l).length = 1 := by rw [length_concs]; exact hne
    simp [hsz]
  unfold finalOf at hv
  split at hv
  · rename_i r hr
    obtain ⟨h1, h2⟩ := result_ok hE h hs hv
    refine ⟨?_, h2⟩
    rw [results_eq, Array.mapM_eq_mapM_toList, hr]
    simp only [Sem.run_bind, Sem.run_map, List.mapM_cons, List.mapM_nil]
    rw [h1]
    simp
  · rename_i rs hne
    split at hv
    · rename_i l hl
      simp only [Option.some.injEq] at hv; subst hv
      obtain ⟨_, _, h3⟩ := results_ok hE h hs _ _ hl
      have hlen : l.length ≠ 1 := fun e => by
        rw [e] at h3
        match hrs : fn.results.toList, h3 with
        | [r], _ => exact hne r hrs
      obtain ⟨h1, h2⟩ := hmany l hl hlen
      exact ⟨h1, h2⟩
    · cases hv

theorem call_step (hE : EnvOk P E) {rec : CodeF} (hrec : CodeOk P E B0 rec) : CallOk P E B0 (evCall E rec) := by
  intro f args B d n v d' n' al ρ w hev h hargs
  simp only [evCall] at hev
  split at hev
  · rename_i fn hfn
    have hP := hE.fns f fn hfn
    have hin : ∀ (l : List (Nat × Func)), assoc l f = some fn → (f, fn) ∈ l := by
      intro l
      induction l with
      | nil => intro h; simp [assoc] at h
      | cons p l ih =>
        obtain ⟨j, g⟩ := p
        intro h
        simp only [assoc] at h
        by_cases e : (j == f) = true
        · rw [if_pos e] at h
          simp only [Option.some.injEq] at h
          have := beq_iff_eq.1 e
          subst this; subst h; simp
        · rw [if_neg e] at h; exact List.mem_cons_of_mem _ (ih h)
    have hall := List.all_eq_true.1 hE.names (f, fn) (hin _ hfn)
    simp only at hall
    split at hev
    · rename_i c hc
      rw [hc] at hall
      simp only [Bool.and_eq_true, bne_iff_ne] at hall
      split at hev
      · rename_i hle
        refine ⟨⟨fn, hP, by rw [hc]; rfl, by simpa using hall.2⟩, ?_⟩
        have main : ∀ x s1 d1 n1, (x = AX.norm ∨ x = AX.ret) → rec c B ⟨fn.ntmps, argSlots args 0⟩ d n = some (x, s1, d1, n1) → finalOf E s1 (d1 :: B) fn.results.toList = some v → d1 = d' → n1 = n' →
            Calls P f (args.map (concV ρ)).toArray w fun e w' => ∃ δ ρ' al', d' = δ ++ d ∧ Step E B0 (In δ) ⟨d :: B, al, n, ρ, w⟩ ⟨d' :: B, al', n', ρ', w'⟩ ∧ v.ok al' ∧ e = .returned (concV ρ' v) := by
          intro x s1 d1 n1 hx hrun hfin hd1 hn1
          subst hd1; subst hn1
          refine calls_of_wp hP hc ?_
          have hs : SlotsOk ρ al ⟨fn.ntmps, argSlots args 0⟩ { tmps := (args.map (concV ρ)).toArray ++ Array.replicate (fn.ntmps - (args.map (concV ρ)).toArray.size) Go.undef, defers := [] } := by
            refine ⟨by simp; omega, fun t => ?_, fun t => ?_⟩
            · simp only [Slots.get, sfind_args, Nat.zero_le, if_true, Nat.sub_zero]
              by_cases ht : t < args.length
              · simp [ht, Array.getElem?_append]
              · rw [List.getElem?_eq_none (by omega)]
                simp only [Option.getD_none, concV, conc]
                simp only [Array.getD_eq_getD_getElem?, Array.getElem?_append, List.size_toArray, List.length_map, ht, if_false, Array.getElem?_replicate]
                split <;> rfl
            · simp only [Slots.get, sfind_args, Nat.zero_le, if_true, Nat.sub_zero]
              cases hg : args[t]? with
              | none => trivial
              | some u => exact hargs u (List.mem_of_getElem? hg)
          refine hrec c B _ d n x s1 d1 n1 al ρ w _ _ hrun hall.1 h hs ?_
          intro δ ρ1 al1 w1 a1 hd hst hs1 hdf
          obtain ⟨h1, h2⟩ := final_ok hE hst.rep hs1 hfin
          rcases hx with rfl | rfl
          · exact ⟨hdf, _, h1, δ, ρ1, al1, hd, hst, h2, rfl⟩
          · exact ⟨hdf, _, h1, δ, ρ1, al1, hd, hst, h2, rfl⟩
        split at hev
        · rename_i s1 d1 n1 hrun
          split at hev <;> cases hev
          rename_i hfin
          exact main _ s1 d' n' (.inl rfl) hrun hfin rfl rfl
        · rename_i s1 d1 n1 hrun
          split at hev <;> cases hev
          rename_i hfin
          exact main _ s1 d' n' (.inr rfl) hrun hfin rfl rfl
        · cases hev
      · cases hev
    · cases hev
  · cases hev

theorem ev_ok (hE : EnvOk P E) : ∀ k, CodeOk P E B0 (ev E k) ∧ RoundsOk P E B0 (ev E k) k
  | 0 => ⟨fun c B s d n x s' d' n' al ρ w a Q hev => (by cases hev), fun c B s d n x s' d' n' al ρ w a Q hev => (by cases hev)⟩
  | k + 1 => by
    obtain ⟨h1, h2⟩ := ev_ok hE k
    exact ⟨code_step hE (call_step hE h1) h1 h2, rounds_step hE h1 h2⟩

/-- THE EVALUATOR IS SOUND. -/
theorem evFn_ok (hE : EnvOk P E) (k : Nat) : CallOk P E B0 (evFn E k) := call_step hE (ev_ok hE k).1

theorem rep_nil (E : Env) (w : World) (hmem : ∀ b o v, E.mem b o = some v → w.cell? ⟨b, o, none⟩ = some v) : Rep E w.heap.size ⟨[[]], fun _ => False, 0, fun _ => (0, 0), w⟩ where
  obj i o ho := by simp [get, look] at ho
  lo i o ho := by simp [get, look] at ho
  inj i j o p ho := by simp [get, look] at ho
  al i o ho := by simp [get, look] at ho
  lt i hi := hi.elim
  base := Nat.le_refl _
  mem b o v hv := by
    refine ⟨?_, hmem b o v hv⟩
    have := hmem b o v hv
    rcases Nat.lt_or_ge b w.heap.size with hl | hl
    · exact hl
    · simp only [World.cell?, Array.getElem?_eq_none hl] at this
      cases this

/-- A call with plain arguments, from nothing. -/
theorem evFn_calls (hE : EnvOk P E) {k f : Nat} {args : List AV} {v : AV} {d : Seg} {n : Nat} (hev : evFn E k f args [] [] 0 = some (v, d, n)) (hplain : ∀ x ∈ args, x.ok fun _ => False) (ρ0 : Rho) (w : World) (hmem : ∀ b o v, E.mem b o = some v → w.cell? ⟨b, o, none⟩ = some v) :
    Calls P f (args.map (concV ρ0)).toArray w fun e w' => ∃ ρ al, Rep E w.heap.size ⟨[d], al, n, ρ, w'⟩ ∧ Below w.heap.size w w' ∧ e = .returned (concV ρ v) := by
  have he : args.map (concV ρ0) = args.map (concV fun _ => (0, 0)) := List.map_congr_left fun x hx => concV_agree (al := fun _ => False) (fun i hi => hi.elim) (hplain x hx)
  rw [he]
  refine (evFn_ok (B0 := w.heap.size) hE k f args [] [] 0 v d n _ _ w hev (rep_nil E w hmem) hplain).2.mono fun e w' ⟨δ, ρ', al', hd, hst, hok, he⟩ => ?_
  refine ⟨ρ', al', hst.rep, ?_, he⟩
  exact ⟨hst.misc.1, hst.misc.2.1, hst.misc.2.2, hst.size, fun b hb => hst.frame b hb (fun i hi hi0 => absurd hi0 (Nat.not_lt_zero _))⟩

end
end Go.Proofs.YtdpielghjaehbaaGreat.Ev
