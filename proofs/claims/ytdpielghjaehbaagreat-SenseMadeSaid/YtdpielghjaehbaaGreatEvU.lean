/- What a call makes of an empty heap it makes beside any heap. -/
import Derived.Test.YtdpielghjaehbaaGreatEvS
import Derived.Test.YtdpielghjaehbaaGreatEvRead
set_option linter.unusedSectionVars false
set_option linter.unusedSimpArgs false
set_option linter.unusedVariables false
namespace Go.Proofs.YtdpielghjaehbaaGreat.Ev
open Go.RowKit

/-- The same, n numbers on. -/
def shC (n : Nat) : AC → AC
  | .ptr i off => .ptr (i + n) off
  | .sl i len => .sl (i + n) len
  | .mref i => .mref (i + n)
  | .clo f i => .clo f (i + n)
  | x => x

def shV (n : Nat) : AV → AV
  | .c x => .c (shC n x)
  | .agg l => .agg (l.map (shC n))
  | .tup l => .tup (l.map (shC n))

def shO (n : Nat) : AObj → AObj
  | .cells e l => .cells e (l.map (shC n))
  | .pm ks c => .pm ks c
  | .km es c => .km (es.map fun x => (x.1, x.2.1, x.2.2.1 + n, x.2.2.2)) c
  | .mit m a b c => .mit (m + n) a b c
  | .sit s p => .sit s p

def shSeg (n : Nat) (d : Seg) : Seg := d.map fun p => (p.1 + n, p.2.map (shO n))

theorem look_sh (n : Nat) : ∀ (d : Seg) (i : Nat), look (shSeg n d) (i + n) = (look d i).map (·.map (shO n))
  | [], i => rfl
  | (j, o) :: d, i => by
    have := look_sh n d i
    simp only [shSeg, List.map_cons, look] at this ⊢
    by_cases e : (j == i) = true
    · have e2 : (j + n == i + n) = true := by simpa using e
      rw [if_pos e, if_pos e2]; rfl
    · have e2 : ¬ (j + n == i + n) = true := by simpa using e
      rw [if_neg e, if_neg e2]; exact this

theorem look_sh_lt (n : Nat) : ∀ (d : Seg) (i : Nat), i < n → look (shSeg n d) i = none
  | [], i, h => rfl
  | (j, o) :: d, i, h => by
    have := look_sh_lt n d i h
    simp only [shSeg, List.map_cons, look] at this ⊢
    have e2 : ¬ (j + n == i) = true := by simp; omega
    rw [if_neg e2]; exact this

theorem get_sh_lt {n : Nat} {δ d : Seg} {i : Nat} (h : i < n) : get [shSeg n δ ++ d] i = get [d] i := by
  simp only [get, look_append, look_sh_lt n δ i h]

theorem get_sh {n : Nat} {δ d : Seg} (hd : ∀ i o, get [d] i = some o → i < n) (i : Nat) : get [shSeg n δ ++ d] (i + n) = (get [δ] i).map (shO n) := by
  simp only [get, look_append, look_sh n δ i]
  cases h : look δ i with
  | some o => rfl
  | none =>
    simp only [Option.map_none]
    cases h2 : get [d] (i + n) with
    | none => simpa only [get] using h2
    | some o => have := hd _ _ h2; omega

section
variable {n n0 : Nat} {ρ ρ0 ρ' : Rho} {al0 al' : Nat → Prop}

theorem conc_sh (h : ∀ i, al0 i → ρ' (i + n) = ρ0 i) : ∀ {x : AC}, x.ok al0 → conc ρ' (shC n x) = conc ρ0 x
  | .undef, _ | .bool _, _ | .int .., _ | .str _, _ | .sl0, _ | .mnil, _ | .raw _, _ => rfl
  | .ptr i off, hx => by simp only [shC, conc, h i hx]
  | .sl i len, hx => by simp only [shC, conc, h i hx]
  | .mref i, hx => by simp only [shC, conc, h i hx]
  | .clo f i, hx => by simp only [shC, conc, h i hx]

theorem concs_sh (h : ∀ i, al0 i → ρ' (i + n) = ρ0 i) {l : List AC} (hl : ∀ x ∈ l, x.ok al0) : concs ρ' (l.map (shC n)) = concs ρ0 l := by
  simp only [concs, List.map_map]
  exact List.map_congr_left fun x hx => conc_sh h (hl x hx)

theorem concV_sh (h : ∀ i, al0 i → ρ' (i + n) = ρ0 i) {v : AV} (hv : v.ok al0) : concV ρ' (shV n v) = concV ρ0 v := by
  cases v with
  | c x => exact conc_sh h hv
  | agg l => simp only [shV, concV, concs_sh h hv]
  | tup l => simp only [shV, concV, concs_sh h hv]

theorem ok_shC (h : ∀ i, al0 i → al' (i + n)) : ∀ {x : AC}, x.ok al0 → (shC n x).ok al'
  | .undef, _ | .bool _, _ | .int .., _ | .str _, _ | .sl0, _ | .mnil, _ | .raw _, _ => trivial
  | .ptr i off, hx => h i hx
  | .sl i len, hx => h i hx
  | .mref i, hx => h i hx
  | .clo f i, hx => h i hx

theorem ok_shV (h : ∀ i, al0 i → al' (i + n)) {v : AV} (hv : v.ok al0) : (shV n v).ok al' := by
  cases v with
  | c x => exact ok_shC h hv
  | agg l => exact fun x hx => by obtain ⟨y, hy, rfl⟩ := List.mem_map.1 hx; exact ok_shC h (hv y hy)
  | tup l => exact fun x hx => by obtain ⟨y, hy, rfl⟩ := List.mem_map.1 hx; exact ok_shC h (hv y hy)

theorem ok_shO (h : ∀ i, al0 i → al' (i + n)) {o : AObj} (ho : o.ok al0) : (shO n o).ok al' := by
  cases o with
  | cells e l => exact fun x hx => by obtain ⟨y, hy, rfl⟩ := List.mem_map.1 hx; exact ok_shC h (ho y hy)
  | pm ks c => trivial
  | km es c => exact fun x hx => by obtain ⟨y, hy, rfl⟩ := List.mem_map.1 hx; exact h _ (ho y hy)
  | mit m a b c => exact h _ ho
  | sit s p => trivial

theorem blk_sh {E E0 : Env} (ht : ∀ e r, assoc E0.tys e = some r → assoc E.tys e = some r) (h : ∀ i, al0 i → ρ' (i + n) = ρ0 i) {cap : Nat} {o : AObj} (ho : o.ok al0) {blk : Obj} (hb : BlkIs E0 ρ0 cap o blk) : BlkIs E ρ' cap (shO n o) blk := by
  cases o with
  | cells e l =>
    obtain ⟨ex, h1, r, h2, h3⟩ := hb
    refine ⟨ex, by rw [concs_sh h ho]; exact h1, r, ht e r h2, by simpa using h3⟩
  | pm ks c => exact hb
  | km es c =>
    simp only [BlkIs, shO] at hb ⊢
    rw [hb, List.map_map]
    congr 2
    refine List.map_congr_left fun x hx => ?_
    simp only [Function.comp, kmEntry, h _ (ho x hx)]
  | mit m a b c =>
    simp only [BlkIs, shO] at hb ⊢
    rw [hb, h _ ho]
  | sit s p => exact hb

end

/-- A contract of an empty heap stands beside any heap; what was there may be memory to it. -/
theorem callsA_import' {P : Program} {E : Env} {B0 f : Nat} {args : List AV} {R : AV → Seg → Nat → Prop} {d : Seg} {n : Nat} (h : ∀ al ρ w, Rep E B0 ⟨[d], al, n, ρ, w⟩ → (∀ x ∈ args, x.ok al) → ∃ E0 args0, (∀ e r, assoc E0.tys e = some r → assoc E.tys e = some r) ∧ (∀ b o v, E0.mem b o = some v → w.cell? ⟨b, o, none⟩ = some v) ∧
      (∀ x ∈ args0, x.ok fun _ => False) ∧ args.map (concV ρ) = args0.map (concV fun _ => (0, 0)) ∧ CallsA P E0 w.heap.size f args0 [] 0 R) :
    CallsA P E B0 f args d n fun v d' n' => ∃ v0 δ n0, R v0 δ n0 ∧ v = shV n v0 ∧ d' = shSeg n δ ++ d ∧ n' = n + n0 ∧ Live d n ∧ v0.ok (· < n0) ∧ Live δ n0 := by
  intro al ρ w hrep hargs
  obtain ⟨E0, args0, ht, hmem, hp, he, h0⟩ := h al ρ w hrep hargs
  have hr0 : Rep E0 w.heap.size ⟨[[]], fun _ => False, 0, fun _ => (0, 0), w⟩ := rep_nil E0 w hmem
  obtain ⟨h1, h2⟩ := h0 _ _ w hr0 hp
  refine ⟨h1, ?_⟩
  rw [he]
  refine h2.mono ?_
  rintro e w' ⟨v0, δ0, n0, δ, ρ0, al0, hR, hd, hst, hok, rfl⟩
  rw [List.append_nil] at hd
  subst hd
  have hal0 : ∀ i, al0 i ↔ i < n0 := fun i => by
    have := hst.al_eq i
    simp only [false_or, Nat.zero_le, true_and] at this
    exact this
  have hlive := rep_live hrep
  have hb : Below w.heap.size w w' := ⟨hst.misc.1, hst.misc.2.1, hst.misc.2.2, hst.size, fun b hb => hst.frame b hb fun i _ hi => by simp only at hi; omega⟩
  obtain ⟨ρ', hρ⟩ : ∃ ρ' : Rho, ρ' = fun i => if i < n then ρ i else if i < n + n0 then ρ0 (i - n) else ρ i := ⟨_, rfl⟩
  have hρ1 : ∀ i, i < n → ρ' i = ρ i := fun i hi => by rw [hρ]; simp only [if_pos hi]
  have hρ2 : ∀ i, al0 i → ρ' (i + n) = ρ0 i := fun i hi => by
    have := (hal0 i).1 hi
    rw [hρ]; simp only [if_neg (show ¬ i + n < n by omega), if_pos (show i + n < n + n0 by omega), Nat.add_sub_cancel]
  have hρ3 : ∀ i, n + n0 ≤ i → ρ' i = ρ i := fun i hi => by
    rw [hρ]; simp only [if_neg (show ¬ i < n by omega), if_neg (show ¬ i < n + n0 by omega)]
  obtain ⟨al', hal'⟩ : ∃ al' : Nat → Prop, al' = fun i => al i ∨ (n ≤ i ∧ i < n + n0) := ⟨_, rfl⟩
  have ha1 : ∀ i, al i → al' i := fun i hi => by rw [hal']; exact .inl hi
  have ha2 : ∀ i, al0 i → al' (i + n) := fun i hi => by have := (hal0 i).1 hi; rw [hal']; exact .inr (by omega)
  have hgd : ∀ i o, get [d] i = some o → i < n := fun i o ho => (hlive i o ho).1
  have hage : ∀ i, al i → ρ' i = ρ i := fun i hi => hρ1 i (hrep.lt i hi)
  -- what lies at a number
  have hget : ∀ i o, get [shSeg n δ0 ++ d] i = some o → (i < n ∧ get [d] i = some o) ∨ ∃ j o0, i = j + n ∧ get [δ0] j = some o0 ∧ o = shO n o0 := fun i o ho => by
    by_cases hi : i < n
    · rw [get_sh_lt hi] at ho; exact .inl ⟨hi, ho⟩
    · obtain ⟨j, rfl⟩ : ∃ j, i = j + n := ⟨i - n, by omega⟩
      rw [get_sh hgd] at ho
      obtain ⟨o0, h3, h4⟩ := Option.map_eq_some_iff.1 ho
      exact .inr ⟨j, o0, rfl, h3, h4.symm⟩
  have hinner : ∀ j o0, get [δ0] j = some o0 → al0 j ∧ o0.ok al0 := fun j o0 ho => hst.rep.al j o0 ho
  have hrep' : Rep E B0 ⟨[shSeg n δ0 ++ d], al', n + n0, ρ', w'⟩ :=
    { obj := fun i o ho => by
        rcases hget i o ho with ⟨hi, ho1⟩ | ⟨j, o0, rfl, ho1, rfl⟩
        · obtain ⟨blk, hx, hbk⟩ := hrep.obj i o ho1
          refine ⟨blk, ?_, ?_⟩
          · simp only [hρ1 i hi]; rw [hb.block _ (hrep.below ho1)]; exact hx
          · simp only [hρ1 i hi]; exact BlkIs_agree hage (hrep.al i o ho1).2 hbk
        · obtain ⟨blk, hx, hbk⟩ := hst.rep.obj j o0 ho1
          obtain ⟨k1, k2⟩ := hinner j o0 ho1
          refine ⟨blk, ?_, ?_⟩
          · simp only [hρ2 j k1]; exact hx
          · simp only [hρ2 j k1]; exact blk_sh ht hρ2 k2 hbk
      lo := fun i o ho => by
        rcases hget i o ho with ⟨hi, ho1⟩ | ⟨j, o0, rfl, ho1, rfl⟩
        · simp only [hρ1 i hi]; exact hrep.lo i o ho1
        · simp only [hρ2 j (hinner j o0 ho1).1]
          exact Nat.le_trans hrep.base (hst.rep.lo j o0 ho1)
      inj := fun i j o p ho hp he => by
        rcases hget i o ho with ⟨hi, ho1⟩ | ⟨i', o0, rfl, ho1, rfl⟩ <;> rcases hget j p hp with ⟨hj, hp1⟩ | ⟨j', p0, rfl, hp1, rfl⟩
        · simp only [hρ1 i hi, hρ1 j hj] at he; exact hrep.inj i j o p ho1 hp1 he
        · simp only [hρ1 i hi, hρ2 j' (hinner j' p0 hp1).1] at he
          have k1 := hrep.below ho1
          have k2 := hst.rep.lo j' p0 hp1
          simp only at k1 k2; omega
        · simp only [hρ1 j hj, hρ2 i' (hinner i' o0 ho1).1] at he
          have k1 := hrep.below hp1
          have k2 := hst.rep.lo i' o0 ho1
          simp only at k1 k2; omega
        · simp only [hρ2 i' (hinner i' o0 ho1).1, hρ2 j' (hinner j' p0 hp1).1] at he
          rw [hst.rep.inj i' j' o0 p0 ho1 hp1 he]
      al := fun i o ho => by
        rcases hget i o ho with ⟨hi, ho1⟩ | ⟨j, o0, rfl, ho1, rfl⟩
        · exact ⟨ha1 i (hrep.al i o ho1).1, AObj.ok_mono ha1 (hrep.al i o ho1).2⟩
        · obtain ⟨k1, k2⟩ := hinner j o0 ho1
          exact ⟨ha2 j k1, ok_shO ha2 k2⟩
      lt := fun i hi => by
        rw [hal'] at hi
        rcases hi with hi | hi
        · have := hrep.lt i hi; simp only at this ⊢; omega
        · exact hi.2
      base := Nat.le_trans hrep.base hb.size
      mem := fun b o v hv => by
        obtain ⟨m1, m2⟩ := hrep.mem b o v hv
        refine ⟨m1, ?_⟩
        have := hrep.base
        simp only at this m2 ⊢
        rw [cell_of_heap (hb.block b (by omega))]; exact m2 }
  refine ⟨shV n v0, shSeg n δ0 ++ d, n + n0, shSeg n δ0, ρ', al', ⟨v0, δ0, n0, hR, rfl, rfl, rfl, hlive, AV.ok_mono (fun i hi => (hal0 i).1 hi) hok, fun i o ho => ⟨(hal0 i).1 (hinner i o ho).1, AObj.ok_mono (fun i hi => (hal0 i).1 hi) (hinner i o ho).2⟩⟩, rfl, ?_, ok_shV ha2 hok, by rw [concV_sh hρ2 hok]⟩
  have hin : ∀ i, In (shSeg n δ0) i → n ≤ i ∧ i < n + n0 := fun i ⟨o, ho⟩ => by
    have hi : n ≤ i := by
      rcases Nat.lt_or_ge i n with hi | hi
      · rw [look_sh_lt n δ0 i hi] at ho; cases ho
      · exact hi
    obtain ⟨j, rfl⟩ : ∃ j, i = j + n := ⟨i - n, by omega⟩
    rw [look_sh] at ho
    obtain ⟨o0, h3, _⟩ := Option.map_eq_some_iff.1 ho
    have := hst.ids j ⟨o0, h3⟩
    simp only at this
    omega
  exact
    { rep := hrep'
      al_eq := fun i => by rw [hal']
      n_le := Nat.le_add_right _ _
      agree := fun i hi => by
        rcases hi with hi | hi
        · exact hρ1 i hi
        · exact hρ3 i hi
      kept := fun i hi => by
        simp only
        have : look (shSeg n δ0) i = none := by
          cases hl : look (shSeg n δ0) i with
          | none => rfl
          | some o => exact absurd ⟨o, hl⟩ hi
        simp only [get, look_append, this]
      live := fun i hi hn => by have := (hin i hi).1; simp only at hn; omega
      ids := fun i hi => (hin i hi).2
      size := hb.size
      frame := fun b hbb _ => hb.block b hbb
      newb := fun i o hi ho => by
        rcases hget i o ho with ⟨hi', _⟩ | ⟨j, o0, rfl, ho1, rfl⟩
        · simp only at hi; omega
        · left
          simp only [hρ2 j (hinner j o0 ho1).1]
          exact hst.rep.lo j o0 ho1
      misc := ⟨hb.os, hb.tape, hb.output⟩ }

/-- A contract of an empty heap stands beside any heap. -/
theorem callsA_import {P : Program} {E E0 : Env} {B0 f : Nat} {args : List AV} {R : AV → Seg → Nat → Prop} (ht : ∀ e r, assoc E0.tys e = some r → assoc E.tys e = some r) (hmem : ∀ b o v, E0.mem b o ≠ some v) (hp : ∀ x ∈ args, x.ok fun _ => False)
    (h : ∀ B, CallsA P E0 B f args [] 0 R) (d : Seg) (n : Nat) : CallsA P E B0 f args d n fun v d' n' => ∃ v0 δ n0, R v0 δ n0 ∧ v = shV n v0 ∧ d' = shSeg n δ ++ d ∧ n' = n + n0 ∧ Live d n ∧ v0.ok (· < n0) ∧ Live δ n0 :=
  callsA_import' fun al ρ w hrep hargs => ⟨E0, args, ht, fun b o v hv => absurd hv (hmem b o v), hp, List.map_congr_left fun x hx => concV_agree (al := fun _ => False) (fun i hi => hi.elim) (hp x hx), h _⟩

end Go.Proofs.YtdpielghjaehbaaGreat.Ev

/- Grammars in abstract heaps stay when heaps grow, and when numbers move on. -/
set_option linter.unusedSectionVars false
set_option linter.unusedSimpArgs false
set_option linter.unusedVariables false
namespace Go.Proofs.YtdpielghjaehbaaGreat.Ev
open Go.RowKit

section
variable {H H' : List Seg} {n : Nat} (h : ∀ i o, get H i = some o → get H' (i + n) = some (shO n o))
include h

theorem isIntsC_sh : ∀ {l : List Int} {cs : List AC}, isIntsC l cs = true → isIntsC l (cs.map (shC n)) = true
  | [], cs, e => by simp [isIntsC]
  | m :: l, [], e => by simp [isIntsC] at e
  | m :: l, c :: cs, e => by
    unfold isIntsC at e
    split at e
    · rename_i hnil; cases hnil
    · rename_i n' l' m' cs' h1 h2
      simp only [List.cons.injEq] at h1 h2
      obtain ⟨rfl, rfl⟩ := h1
      obtain ⟨rfl, rfl⟩ := h2
      simp only [Bool.and_eq_true, beq_iff_eq] at e
      have := isIntsC_sh (l := l) (cs := cs) e.2
      simp only [List.map_cons, shC, isIntsC, Bool.and_eq_true, beq_iff_eq]
      exact ⟨e.1, this⟩
    · cases e

theorem isInts_sh {v : AC} {l : List Int} (e : isInts H v l = true) : isInts H' (shC n v) l = true := by
  unfold isInts at e
  split at e
  · exact e
  · rename_i i len
    simp only [Bool.and_eq_true, beq_iff_eq] at e
    obtain ⟨e1, e2⟩ := e
    split at e2
    · rename_i o cs ho
      have := h i _ ho
      simp only [shC, isInts, Bool.and_eq_true, beq_iff_eq, this, shO]
      exact ⟨e1, isIntsC_sh h e2⟩
    · cases e2
  · cases e

mutual
theorem isEx_sh : ∀ (x : Ex) (cs : List AC), isEx H x cs = true → isEx H' x (cs.map (shC n)) = true
  | .mk kind text nums least most kids, cs, e => by
    simp only [isEx] at e
    split at e
    · rename_i k t nv mn mx kv
      simp only [Bool.and_eq_true] at e
      obtain ⟨⟨⟨⟨⟨e1, e2⟩, e3⟩, e4⟩, e5⟩, e6⟩ := e
      simp only [List.map_cons, List.map_nil, shC, isEx, Bool.and_eq_true]
      refine ⟨⟨⟨⟨⟨e1, e2⟩, isInts_sh h e3⟩, e4⟩, e5⟩, ?_⟩
      split at e6
      · exact e6
      · rename_i i len
        simp only [Bool.and_eq_true] at e6
        obtain ⟨e7, e8⟩ := e6
        split at e8
        · rename_i ei o ho
          have := h i _ ho
          simp only [shC, this, shO, Bool.and_eq_true]
          exact ⟨e7, isKids_sh kids o e8⟩
        · cases e8
      · cases e6
    · cases e
theorem isKids_sh : ∀ (l : List Ex) (cs : List AC), isKids H l cs = true → isKids H' l (cs.map (shC n)) = true
  | [], cs, e => by simp [isKids]
  | x :: xs, cs, e => by
    simp only [isKids, Bool.and_eq_true] at e ⊢
    rw [← List.map_take, ← List.map_drop]
    exact ⟨isEx_sh x _ e.1, isKids_sh xs _ e.2⟩
end

theorem isRus_sh : ∀ (l : List Ru) (cs : List AC), isRus H l cs = true → isRus H' l (cs.map (shC n)) = true
  | [], cs, e => by simp [isRus]
  | x :: xs, cs, e => by
    simp only [isRus, Bool.and_eq_true] at e ⊢
    obtain ⟨e1, e2⟩ := e
    refine ⟨?_, by rw [← List.map_drop]; exact isRus_sh xs _ e2⟩
    split at e1
    · rename_i t more
      simp only [Bool.and_eq_true] at e1
      simp only [List.map_cons, shC, Bool.and_eq_true]
      exact ⟨e1.1, by rw [← List.map_take]; exact isEx_sh h x.ex _ e1.2⟩
    · cases e1

theorem isRules_sh {v : AC} {g : List Ru} (e : isRules H v g = true) : isRules H' (shC n v) g = true := by
  unfold isRules at e
  split at e
  · exact e
  · rename_i i len
    simp only [Bool.and_eq_true, beq_iff_eq] at e
    obtain ⟨e1, e2⟩ := e
    split at e2
    · rename_i ei o ho
      have := h i _ ho
      simp only [shC, isRules, Bool.and_eq_true, beq_iff_eq, this, shO]
      exact ⟨e1, isRus_sh h g o e2⟩
    · cases e2
  · cases e
end

theorem shC_zero : ∀ x : AC, shC 0 x = x
  | .undef | .bool _ | .int .. | .str _ | .sl0 | .mnil | .raw _ | .ptr .. | .sl .. | .mref _ | .clo .. => rfl

theorem shO_zero (o : AObj) : shO 0 o = o := by
  have e : shC 0 = id := funext shC_zero
  cases o with
  | cells e' l => simp [shO, e]
  | pm ks c => rfl
  | km es c => simp [shO]
  | mit m a b c => rfl
  | sit s p => rfl

/-- A grammar that lies there lies there still, when what was there is as it was. -/
theorem isRules_keep {d d' : Seg} {n : Nat} (hl : Live d n) (hk : ∀ i, i < n → get [d'] i = get [d] i) {v : AC} {g : List Ru} (e : isRules [d] v g = true) : isRules [d'] v g = true := by
  have := isRules_sh (H := [d]) (H' := [d']) (n := 0) (fun i o ho => by rw [shO_zero, Nat.add_zero, hk i (hl i o ho).1]; exact ho) e
  rwa [shC_zero] at this

theorem isRules_import {d δ : Seg} {n : Nat} (hl : Live d n) {v : AC} {g : List Ru} (e : isRules [δ] v g = true) : isRules [shSeg n δ ++ d] (shC n v) g = true :=
  isRules_sh (fun i o ho => by rw [get_sh (fun i o ho => (hl i o ho).1), ho]; rfl) e

/-- A text that is read, beside any heap. -/
theorem reads_abs {E : Env} {B0 k : Nat} {text : List UInt8} {g : List Ru} (ht : ∀ e r, assoc env.tys e = some r → assoc E.tys e = some r) (hk : readsAs env k 6 text g = true) (d : Seg) (n : Nat) :
    CallsA Tryz.prog E B0 6 [.c (.str text)] d n fun v d' n' => ∃ x, v = .c x ∧ isRules [d'] x g = true ∧ n ≤ n' ∧ ∀ i, i < n → get [d'] i = get [d] i := by
  unfold readsAs at hk
  split at hk
  · rename_i v0 δ n0 hev
    refine (callsA_import (E0 := env) (R := fun v δ' n' => v = .c v0 ∧ δ' = δ ∧ n' = n0) ht (fun b o v h => by cases h) (fun x hx => by simp only [List.mem_singleton] at hx; subst hx; trivial) (fun B al ρ w hr ha => ?_) d n).mono ?_
    · obtain ⟨h1, h2⟩ := evFn_ok env_ok k 6 [.c (.str text)] [] [] 0 _ δ n0 al ρ w hev hr ha
      exact ⟨h1, h2.mono fun e w' ⟨δ2, ρ2, al2, a1, a2, a3, a4⟩ => ⟨.c v0, δ, n0, δ2, ρ2, al2, ⟨rfl, rfl, rfl⟩, a1, a2, a3, a4⟩⟩
    · rintro v d' n' ⟨_, _, _, ⟨rfl, rfl, rfl⟩, rfl, rfl, rfl, hl, _, _⟩ _ hle _
      exact ⟨_, rfl, isRules_import hl hk, hle, fun i hi => get_sh_lt hi⟩
  · cases hk

end Go.Proofs.YtdpielghjaehbaaGreat.Ev
