/- What the evaluator's heap holds, read as a grammar; regletlaw06.Read at a text, by the evaluator. -/
import Derived.Test.YtdpielghjaehbaaGreatEvEnv
import Derived.Test.YtdpielghjaehbaaGreatDat
set_option linter.unusedSectionVars false
set_option linter.unusedSimpArgs false
set_option linter.unusedVariables false
namespace Go.Proofs.YtdpielghjaehbaaGreat.Ev
open Go.RowKit

def isIntsC : List Int → List AC → Bool
  | [], _ => true
  | n :: l, .int .i64 m :: cs => n == m && isIntsC l cs
  | _, _ => false

def isInts (H : List Seg) (v : AC) (l : List Int) : Bool :=
  match v with
  | .sl0 => l.isEmpty
  | .sl i len => len == l.length && (match get H i with
    | some (.cells _ cs) => isIntsC l cs
    | _ => false)
  | _ => false

mutual
def isEx (H : List Seg) : Ex → List AC → Bool
  | .mk kind text nums least most kids, cs => match cs with
    | [.int .i64 k, .str t, nv, .int .i64 mn, .int .i64 mx, kv] => k == kind && sameBytes t text && isInts H nv nums && mn == least && mx == most && (match kv with
      | .sl0 => kids.isEmpty
      | .sl i len => len == kids.length && (match get H i with
        | some (.cells _ cs) => isKids H kids cs
        | _ => false)
      | _ => false)
    | _ => false
def isKids (H : List Seg) : List Ex → List AC → Bool
  | [], _ => true
  | e :: es, cs => isEx H e (cs.take 6) && isKids H es (cs.drop 6)
end

def isRus (H : List Seg) : List Ru → List AC → Bool
  | [], _ => true
  | r :: rs, cs => (match cs with
    | .str t :: more => sameBytes t r.name && isEx H r.ex (more.take 6)
    | _ => false) && isRus H rs (cs.drop 7)

def isRules (H : List Seg) (v : AC) (g : List Ru) : Bool :=
  match v with
  | .sl0 => g.isEmpty
  | .sl i len => len == g.length && (match get H i with
    | some (.cells _ cs) => isRus H g cs
    | _ => false)
  | _ => false

section
variable {E : Env} {B0 : Nat} {S : St} (h : Rep E B0 S)
include h

theorem cells_of {i ei : Nat} {cs : List AC} (ho : get S.H i = some (.cells ei cs)) (off k : Nat) : CellsAt S.w (S.ρ i).1 off (concs S.ρ ((cs.drop off).take k)) := by
  intro j v hj
  simp only [concs, List.getElem?_map] at hj
  obtain ⟨c, hc, rfl⟩ := Option.map_eq_some_iff.1 hj
  have hlt : j < k := by
    rcases Nat.lt_or_ge j k with hl | hl
    · exact hl
    · rw [List.getElem?_take_eq_none hl] at hc; cases hc
  rw [List.getElem?_take_of_lt hlt, List.getElem?_drop] at hc
  exact h.cell ho hc

theorem sameBytes_eq' : ∀ {x y : List UInt8}, sameBytes x y = true → x = y
  | [], [], _ => rfl
  | [], _ :: _, e => by simp [sameBytes] at e
  | _ :: _, [], e => by simp [sameBytes] at e
  | c :: x, d :: y, e => by
    simp only [sameBytes, Bool.and_eq_true, beq_iff_eq, UInt8.toNat_inj] at e
    rw [e.1, sameBytes_eq' e.2]

theorem isIntsC_spec : ∀ {l : List Int} {cs : List AC}, isIntsC l cs = true → ∀ (j : Nat) (n : Int), l[j]? = some n → cs[j]? = some (AC.int .i64 n)
  | [], cs, _, j, n, hj => by simp at hj
  | m :: l, [], e, j, n, hj => by simp [isIntsC] at e
  | m :: l, c :: cs, e, j, n, hj => by
    unfold isIntsC at e
    split at e
    · rename_i hnil; cases hnil
    · rename_i n' l' m' cs' h1 h2
      simp only [List.cons.injEq] at h1 h2
      obtain ⟨rfl, rfl⟩ := h1
      obtain ⟨rfl, rfl⟩ := h2
      simp only [Bool.and_eq_true, beq_iff_eq] at e
      cases j with
      | zero =>
        simp only [List.getElem?_cons_zero, Option.some.injEq] at hj ⊢
        rw [← hj, e.1]
      | succ j => simpa using isIntsC_spec e.2 j n (by simpa using hj)
    · cases e

theorem isInts_at {v : AC} {l : List Int} (e : isInts S.H v l = true) : IntsAt S.w S.w.heap.size (conc S.ρ v) l := by
  unfold isInts at e
  split at e
  · exact .inl ⟨rfl, List.isEmpty_iff.1 e⟩
  · rename_i i len
    simp only [Bool.and_eq_true, beq_iff_eq] at e
    obtain ⟨e1, e2⟩ := e
    subst e1
    split at e2
    · rename_i o ho
      exact .inr ⟨(S.ρ i).1, (S.ρ i).2, h.below ho, rfl, fun j n hj => h.cell ho (isIntsC_spec h e2 j n hj)⟩
    · cases e2
  · cases e

mutual
theorem isEx_at : ∀ (x : Ex) (cs : List AC), isEx S.H x cs = true → ExAt S.w S.w.heap.size x (concs S.ρ cs)
  | .mk kind text nums least most kids, cs, e => by
    simp only [isEx] at e
    split at e
    · rename_i k t nv mn mx kv
      simp only [Bool.and_eq_true, beq_iff_eq] at e
      obtain ⟨⟨⟨⟨⟨e1, e2⟩, e3⟩, e4⟩, e5⟩, e6⟩ := e
      subst e1; subst e4; subst e5
      have e2' := sameBytes_eq' h e2
      subst e2'
      simp only [ExAt]
      refine ⟨conc S.ρ nv, conc S.ρ kv, rfl, isInts_at h e3, ?_⟩
      split at e6
      · left
        exact ⟨rfl, by rw [List.isEmpty_iff.1 e6]; rfl⟩
      · rename_i i len
        simp only [Bool.and_eq_true, beq_iff_eq] at e6
        obtain ⟨e7, e8⟩ := e6
        subst e7
        split at e8
        · rename_i ei o ho
          exact .inr ⟨(S.ρ i).1, (S.ρ i).2, h.below ho, rfl, isKids_at kids i ei o 0 ho (by simpa using e8)⟩
        · cases e8
      · cases e6
    · cases e
theorem isKids_at : ∀ (l : List Ex) (i ei : Nat) (o : List AC) (q : Nat), get S.H i = some (.cells ei o) → isKids S.H l (o.drop (q * 6)) = true → KidsAt S.w S.w.heap.size (S.ρ i).1 q l
  | [], i, ei, o, q, ho, e => by simp only [KidsAt]
  | x :: xs, i, ei, o, q, ho, e => by
    simp only [isKids, Bool.and_eq_true] at e
    simp only [KidsAt]
    refine ⟨⟨concs S.ρ ((o.drop (q * 6)).take 6), cells_of h ho (q * 6) 6, isEx_at x _ e.1⟩, isKids_at xs i ei o (q + 1) ho ?_⟩
    rw [List.drop_drop] at e
    rw [Nat.add_mul, Nat.one_mul]
    exact e.2
end

theorem isRus_at : ∀ (l : List Ru) (i ei : Nat) (o : List AC) (q : Nat), get S.H i = some (.cells ei o) → isRus S.H l (o.drop (q * 7)) = true → RuAt S.w S.w.heap.size (S.ρ i).1 q l
  | [], i, ei, o, q, ho, e => by simp only [RuAt]
  | x :: xs, i, ei, o, q, ho, e => by
    simp only [isRus, Bool.and_eq_true] at e
    obtain ⟨e1, e2⟩ := e
    simp only [RuAt]
    split at e1
    · rename_i t more hcs
      simp only [Bool.and_eq_true] at e1
      have hn := sameBytes_eq' h e1.1
      subst hn
      have hmore : o.drop (q * 7 + 1) = more := by
        rw [← List.drop_drop, hcs]; rfl
      refine ⟨⟨concs S.ρ (more.take 6), ?_, ?_, isEx_at h x.ex _ e1.2⟩, isRus_at xs i ei o (q + 1) ho ?_⟩
      · have h0 : o[q * 7]? = some (.str x.name) := by
          have := congrArg (·[0]?) hcs
          simpa [List.getElem?_drop] using this
        exact h.cell ho h0
      · rw [← hmore]; exact cells_of h ho (q * 7 + 1) 6
      · rw [List.drop_drop] at e2
        rw [Nat.add_mul, Nat.one_mul]
        exact e2
    · cases e1

theorem isRules_at {v : AC} {g : List Ru} (e : isRules S.H v g = true) : RulesAt S.w S.w.heap.size (conc S.ρ v) g := by
  unfold isRules at e
  split at e
  · exact .inl ⟨rfl, List.isEmpty_iff.1 e⟩
  · rename_i i len
    simp only [Bool.and_eq_true, beq_iff_eq] at e
    obtain ⟨e1, e2⟩ := e
    subst e1
    split at e2
    · rename_i ei o ho
      exact .inr ⟨(S.ρ i).1, (S.ρ i).2, h.below ho, rfl, isRus_at h g i ei o 0 ho (by simpa using e2)⟩
    · cases e2
  · cases e
end

/-- Does the evaluator come from a text to these rules? -/
def readsAs (E : Env) (k f : Nat) (text : List UInt8) (g : List Ru) : Bool :=
  match evFn E k f [.c (.str text)] [] [] 0 with
  | some (.c v, d, _) => isRules [d] v g
  | _ => false

theorem reads_ok {k f : Nat} {text : List UInt8} {g : List Ru} (hk : readsAs env k f text g = true) (w : World) :
    Calls Tryz.prog f #[.string ⟨text.toArray⟩] w fun e w' => ∃ v, e = .returned v ∧ RulesAt w' w'.heap.size v g ∧ Below w.heap.size w w' := by
  unfold readsAs at hk
  split at hk
  · rename_i v d n hev
    refine (evFn_calls env_ok hev (fun x hx => by simp only [List.mem_singleton] at hx; subst hx; trivial) (fun _ => (0, 0)) w (fun b o v h => by cases h)).mono fun e w' ⟨ρ, al, hrep, hb, he⟩ => ?_
    exact ⟨conc ρ v, he, isRules_at hrep hk, hb⟩
  · cases hk

end Go.Proofs.YtdpielghjaehbaaGreat.Ev
