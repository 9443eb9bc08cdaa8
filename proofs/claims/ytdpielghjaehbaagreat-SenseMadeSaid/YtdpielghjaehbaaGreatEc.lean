/- sense.Ends, known ahead: what a call makes is one row of numbers, or none. -/
import Derived.Test.YtdpielghjaehbaaGreatLb
import Derived.Test.YtdpielghjaehbaaGreatAw
set_option linter.unusedSectionVars false
set_option linter.unusedSimpArgs false
set_option linter.unusedVariables false
namespace Go.Proofs.YtdpielghjaehbaaGreat.Ev
open Go.RowKit

variable {mem : Nat → Nat → Option Value} {B0 : Nat}

/-- No new object; other blocks have come. -/
theorem step_gone {E : Env} {d : Seg} {B : List Seg} {al : Nat → Prop} {n : Nat} {ρ : Rho} {w w' : World} (h : Rep E B0 ⟨d :: B, al, n, ρ, w⟩) (hw : Below w.heap.size w w') :
    Step E B0 (In [(n, none)]) ⟨d :: B, al, n, ρ, w⟩ ⟨([(n, none)] ++ d) :: B, fun i => al i ∨ i = n, n + 1, ρ, w'⟩ := by
  have hin : ∀ i, In [(n, none)] i ↔ i = n := by
    intro i
    unfold In
    simp only [look, beq_iff_eq]
    constructor
    · rintro ⟨o, ho⟩
      split at ho
      · rename_i hi; exact hi.symm
      · cases ho
    · rintro rfl; exact ⟨_, if_pos rfl⟩
  have hget : ∀ i, get (([(n, none)] ++ d) :: B) i = get (d :: B) i := by
    intro i
    rw [get_append]
    simp only [look, beq_iff_eq]
    by_cases hi : n = i
    · subst hi
      simp only [if_true]
      cases hg : get (d :: B) n with
      | none => rfl
      | some o => have := h.lt n (h.al n o hg).1; simp only at this; omega
    · rw [if_neg hi]
  have hs := step_below h hw
  refine { rep := ?_, al_eq := ?_, n_le := Nat.le_succ n, agree := fun _ _ => rfl, kept := fun i _ => hget i, live := ?_, ids := ?_, size := hw.size, frame := fun b hb _ => hw.block b hb, newb := ?_, misc := ⟨hw.os, hw.tape, hw.output⟩ }
  · have hr := hs.rep.congrH hget
    exact { obj := hr.obj, lo := hr.lo, inj := hr.inj, al := fun i o ho => ⟨.inl (hr.al i o ho).1, AObj.ok_mono (fun _ x => .inl x) (hr.al i o ho).2⟩, lt := fun i hi => by
              rcases hi with hi | hi
              · exact Nat.lt_succ_of_lt (h.lt i hi)
              · simp only; omega
            base := hr.base, mem := hr.mem }
  · intro i
    simp only
    constructor
    · rintro (hi | hi)
      · exact .inl hi
      · exact .inr (by omega)
    · rintro (hi | hi)
      · exact .inl hi
      · exact .inr (by omega)
  · intro i hi hn
    have := (hin i).1 hi
    simp only at hn; omega
  · intro i hi
    have := (hin i).1 hi
    simp only; omega
  · intro i o hi ho
    simp only [hget] at ho
    have := h.lt i (h.al i o ho).1
    simp only at this hi; omega

theorem endsAre_uniq {g : List Ru} {s nm : List UInt8} {utf : Bool} {l1 l2 : List Int} (h1 : EndsAre g s nm utf l1) (h2 : EndsAre g s nm utf l2) : l1 = l2 :=
  sorted_ext h1.1 h2.1 fun x => by rw [h1.2, h2.2]

open Classical in
/-- The ends, if there are such. -/
noncomputable def endsL (g : List Ru) (s nm : List UInt8) : List Int := if h : ∃ l, EndsAre g s nm false l then h.choose else []

theorem endsL_of {g : List Ru} {s nm : List UInt8} {l : List Int} (h : EndsAre g s nm false l) : endsL g s nm = l := by
  have h1 : ∃ l, EndsAre g s nm false l := ⟨l, h⟩
  unfold endsL
  rw [dif_pos h1]
  exact endsAre_uniq h1.choose_spec h

def rowV (n : Nat) (l : List Int) : AC := if l = [] then .sl0 else .sl n l.length
def rowO (l : List Int) : Option AObj := if l = [] then none else some (.cells 3 (intsC l))

theorem rowIn {d : Seg} {n : Nat} {l : List Int} (h : get [d] n = rowO l) : IntIn d (rowV n l) l := by
  unfold rowV rowO at *
  by_cases h0 : l = []
  · rw [if_pos h0]; exact .inl ⟨rfl, h0⟩
  · rw [if_neg h0] at h ⊢; exact .inr ⟨h0, n, rfl, h⟩

noncomputable def callE (g : List Ru) (NM : List (List UInt8)) : CallF := fun f args B d n => match args with
  | [.c x, .c (.str nm), .c (.str s), .c (.bool utf)] => if f = 15 ∧ utf = false ∧ isRules (d :: B) x g = true ∧ nm ∈ NM ∧ s.length < 1000 then some (.c (rowV n (endsL g s nm)), (n, rowO (endsL g s nm)) :: d, n + 1) else none
  | _ => none

theorem callE_eq {g : List Ru} {NM : List (List UInt8)} {x : AC} {nm s : List UInt8} {B : List Seg} {d : Seg} {n : Nat} (hx : isRules (d :: B) x g = true) (hnm : nm ∈ NM) (hs : s.length < 1000) :
    callE g NM 15 [.c x, .c (.str nm), .c (.str s), .c (.bool false)] B d n = some (.c (rowV n (endsL g s nm)), (n, rowO (endsL g s nm)) :: d, n + 1) := by
  exact if_pos ⟨rfl, rfl, hx, hnm, hs⟩

theorem callE_ok {g : List Ru} {NM : List (List UInt8)} (hg : g.length < 1000) (hwf : ∀ r ∈ g, wfEx NM r.ex = true) (hNM : NM.length ≤ 1000) : CallOk Tryz.prog (lenv mem) B0 (callE g NM) := by
  intro f args B d n v d' n' al ρ w hc hrep hargs
  unfold callE at hc
  split at hc
  · rename_i x nm s utf
    split at hc <;> cases hc
    rename_i hcond
    obtain ⟨rfl, rfl, hx, hnm, hs⟩ := hcond
    have hbig : NM.length * (s.length + 1) ≤ 1000000000000 := Nat.le_trans (Nat.mul_le_mul hNM (show s.length + 1 ≤ 1000 by omega)) (by decide)
    refine ⟨⟨_, Tryz.func15, rfl, by decide⟩, ?_⟩
    have h := calls_of_abs (E := senv (memOf w)) (w := w) (fun b o v hv => memOf_ok hv) (by
      intro y hy
      simp only [List.mem_cons, List.not_mem_nil, or_false] at hy
      rcases hy with rfl | rfl | rfl | rfl
      · exact ok_lift _ _
      · trivial
      · trivial
      · trivial) (ends_abs (B0 := w.heap.size) (d := []) (n := 0) (utf := false) (isRules_at hrep hx) (by omega) hwf hnm (by omega) hbig)
    have e : ([AV.c x, .c (.str nm), .c (.str s), .c (.bool false)].map (concV ρ)) = [AV.c (lift (conc ρ x)), .c (.str nm), .c (.str s), .c (.bool false)].map (concV fun _ => (0, 0)) := by
      simp only [List.map_cons, List.map_nil, lift_conc]
      rfl
    rw [e]
    refine h.mono ?_
    rintro e w' ⟨v, d1, n1, al1, ρ1, ⟨l, h1, h2, h3⟩, hr1, hb, hok, rfl⟩
    have hl : endsL g s nm = l := endsL_of ⟨h1, h2⟩
    rw [hl]
    rcases h3 with ⟨rfl, rfl⟩ | ⟨h0, j, _, rfl, hj⟩
    · exact ⟨[(n, none)], ρ, fun i => al i ∨ i = n, rfl, step_gone hrep hb, trivial, rfl⟩
    · obtain ⟨blk, hb1, ex, hb2, r, hb3, hb4⟩ := hr1.obj j _ hj
      have hplain : ∀ (r1 r2 : Rho), concs r1 (intsC l) = concs r2 (intsC l) := fun r1 r2 => by
        simp only [concs, intsC, List.map_map]
        rfl
      have hst := step_fresh hrep (.cells 3 (intsC l)) (fun c hc => by
        simp only [intsC, List.mem_map] at hc
        obtain ⟨z, _, rfl⟩ := hc
        trivial) blk (ρ1 j).2 ⟨ex, by rw [hplain ρ ρ1]; exact hb2, r, lenv_senv _ _ hb3, hb4⟩ (ρ1 j).1 (hr1.lo j _ hj) hb hb1
      rw [show rowO l = some (.cells 3 (intsC l)) from if_neg h0, show rowV n l = .sl n l.length from if_neg h0]
      refine ⟨[(n, some (.cells 3 (intsC l)))], _, _, rfl, hst, .inr rfl, ?_⟩
      simp only [concV, conc, if_true]
  · cases hc

theorem isRules_heapAt {d : Seg} {n k : Nat} {bits : List Nat} {rs : List Rec} {x : AC} {g : List Ru} (hl : Live d n) (hr : isRules [d] x g = true) (h : ∀ r ∈ rs, ∀ p ∈ r.δ, n ≤ p.1) : isRules ([] :: heapAt bits [] [d] rs k) x g = true := by
  have key : ∀ (rs : List Rec) (k : Nat) (p : Nat → Bool), (∀ r ∈ rs, ∀ p ∈ r.δ, n ≤ p.1) → ∀ i, i < n → get (seen p rs k ++ [d]) i = get [d] i := by
    intro rs
    induction rs with
    | nil => intro k p _ i _; rfl
    | cons r rs ih =>
      intro k p h i hi
      have hn : ∀ (δ : Seg), (∀ q ∈ δ, n ≤ q.1) → look δ i = none := by
        intro δ
        induction δ with
        | nil => intro _; rfl
        | cons q δ ih =>
          obtain ⟨j, o⟩ := q
          intro hq
          have := hq _ (List.mem_cons_self ..)
          have hji : (j == i) = false := by simp; simp only at this; omega
          simp only [look, hji]
          exact ih fun q hq' => hq q (List.mem_cons_of_mem _ hq')
      have hrd := h r (List.mem_cons_self ..)
      have : look (if p (k - 1) then r.δ else tomb r.δ) i = none := by
        split
        · exact hn _ hrd
        · exact hn _ fun q hq => by
            obtain ⟨y, hy, rfl⟩ := List.mem_map.1 hq
            exact hrd y hy
      simp only [seen, List.cons_append, get, this]
      exact ih _ _ (fun r hr => h r (List.mem_cons_of_mem _ hr)) i hi
  have := isRules_sh (H := [d]) (H' := [] :: heapAt bits [] [d] rs k) (n := 0) (v := x) (g := g) (fun i o ho => by
    rw [shO_zero, Nat.add_zero, get_heapAt, key rs k _ h i (hl i o ho).1]; exact ho) hr
  rwa [shC_zero] at this

theorem sb_eq : ∀ {x y : List UInt8}, sameBytes x y = true → x = y
  | [], [], _ => rfl
  | [], _ :: _, e => by simp [sameBytes] at e
  | _ :: _, [], e => by simp [sameBytes] at e
  | c :: x, d :: y, e => by
    simp only [sameBytes, Bool.and_eq_true, beq_iff_eq, UInt8.toNat_inj] at e
    rw [e.1, sb_eq e.2]

/-- The names of a grammar in the heap. -/
theorem isRus_name {H : List Seg} : ∀ (g : List Ru) (cs : List AC), isRus H g cs = true → ∀ i r, g[i]? = some r → cs[i * 7]? = some (.str r.name)
  | [], cs, _, i, r, hr => by simp at hr
  | u :: g, cs, h, i, r, hr => by
    simp only [isRus, Bool.and_eq_true] at h
    obtain ⟨h1, h2⟩ := h
    cases i with
    | zero =>
      simp only [List.getElem?_cons_zero, Option.some.injEq] at hr
      subst hr
      split at h1
      · simp only [Bool.and_eq_true] at h1
        rw [sb_eq h1.1]
        rfl
      · cases h1
    | succ i =>
      simp only [List.getElem?_cons_succ] at hr
      have := isRus_name g _ h2 i r hr
      rw [List.getElem?_drop] at this
      rw [← this]
      congr 1
      omega

theorem isRules_obj {d : Seg} {x : AC} {g : List Ru} (h : isRules [d] x g = true) (hg : g ≠ []) : ∃ i e cs, x = .sl i g.length ∧ get [d] i = some (.cells e cs) ∧ ∀ j r, g[j]? = some r → cs[j * 7]? = some (.str r.name) := by
  unfold isRules at h
  split at h
  · exact absurd (List.isEmpty_iff.1 h) hg
  · rename_i i len
    simp only [Bool.and_eq_true, beq_iff_eq] at h
    obtain ⟨h1, h2⟩ := h
    split at h2
    · rename_i e cs ho
      exact ⟨i, e, cs, by rw [h1], ho, isRus_name g cs h2⟩
    · cases h2
  · cases h

section
variable {E : Env} {P : Program} {call call' : CallF} {ops : Array Oper} {s : Slots} {d : Seg} {n n' : Nat} {K : List Fr} {Q : AX → Slots → Seg → Nat → Prop}

/-- A region that draws, with calls known ahead that the code around does not know. -/
theorem code_drawn2 {id : Nat} (hE : EnvOk P E) (hcall' : CallOk P E B0 call') (hst : statOk ops = true) (bits : List Nat) (hbits : (befGo ops.toList []).reverse = bits) {rs : List Rec}
    (h : dGo E call' ops.toList bits [d] s ops.toList 0 [] n = some (rs, n')) (hl : subAll (laters bits rs ops.toList.length rs.reverse 0) [] = true)
    (k : backK P E B0 call .norm ⟨s.nt, wrs s.nt (fun _ => true) rs ops.toList.length ++ s.l⟩ (flat rs d) n' K Q) :
    codeK P E B0 call (.region id ops true) s d n K Q := by
  refine ⟨aw_draw hE hcall' hst ?_ k.out⟩
  subst hbits
  unfold evDraw
  simp only
  unfold dGo at h
  rw [h]
  simp only [hl, if_true]

end
end Go.Proofs.YtdpielghjaehbaaGreat.Ev
