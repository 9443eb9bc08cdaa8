/- Steps in which blocks have come that nobody looks at. -/
import Derived.Test.YtdpielghjaehbaaEvW
set_option linter.unusedSectionVars false
set_option linter.unusedSimpArgs false
set_option linter.unusedVariables false
namespace Go.Proofs.Ytdpielghjaehbaa.Ev
open Go.RowKit

/-- A new object in a new block, wherever it lies; other blocks have come. -/
theorem step_fresh {E : Env} {B0 : Nat} {d : Seg} {B : List Seg} {al : Nat → Prop} {n : Nat} {ρ : Rho} {w w' : World} (h : Rep E B0 ⟨d :: B, al, n, ρ, w⟩)
    (o : AObj) (hl : o.ok al) (blk : Obj) (cap : Nat) (hblk : BlkIs E ρ cap o blk)
    (g : Nat) (hg : w.heap.size ≤ g) (hw : Below w.heap.size w w') (hgb : w'.heap[g]? = some blk) :
    Step E B0 (In [(n, some o)]) ⟨d :: B, al, n, ρ, w⟩
      ⟨([(n, some o)] ++ d) :: B, fun i => al i ∨ i = n, n + 1, fun i => if i = n then (g, cap) else ρ i, w'⟩ := by
  have hin : ∀ i, In [(n, some o)] i ↔ i = n := by
    intro i
    unfold In
    simp only [look, beq_iff_eq]
    constructor
    · rintro ⟨o, ho⟩
      split at ho
      · rename_i hi; exact hi.symm
      · cases ho
    · rintro rfl; exact ⟨_, if_pos rfl⟩
  have hget : ∀ i, get (([(n, some o)] ++ d) :: B) i = if i = n then some o else get (d :: B) i := by
    intro i
    rw [get_append]
    simp only [look, beq_iff_eq]
    by_cases hi : i = n
    · subst hi; simp
    · rw [if_neg (fun x => hi x.symm), if_neg hi]
  have hsz := hw.size
  have hold : ∀ b, b < w.heap.size → w'.heap[b]? = w.heap[b]? := hw.block
  have hag : ∀ i, al i → (fun i => if i = n then (g, cap) else ρ i) i = ρ i := fun i hi => by
    have := h.lt i hi
    simp only at this
    simp only [if_neg (show i ≠ n by omega)]
  have hal' : ∀ i, al i → (fun i => al i ∨ i = n) i := fun i hi => .inl hi
  refine { rep := ?_, al_eq := ?_, n_le := Nat.le_succ n, agree := ?_, kept := ?_, live := ?_, ids := ?_, size := ?_, frame := ?_, newb := ?_, misc := ⟨hw.os, hw.tape, hw.output⟩ }
  · refine { obj := ?_, lo := ?_, inj := ?_, al := ?_, lt := ?_, base := ?_, mem := ?_ }
    · intro i o' ho
      simp only [hget] at ho
      by_cases hi : i = n
      · rw [if_pos hi] at ho
        simp only [Option.some.injEq] at ho
        subst ho; subst hi
        refine ⟨blk, ?_, ?_⟩
        · simp only [if_true]; exact hgb
        · simp only [if_true]; exact BlkIs_agree hag hl hblk
      · rw [if_neg hi] at ho
        obtain ⟨blk', hx, hb'⟩ := h.obj i o' ho
        refine ⟨blk', ?_, ?_⟩
        · simp only [if_neg hi]
          rw [hold _ (h.below ho)]
          exact hx
        · simp only [if_neg hi]; exact BlkIs_agree hag (h.al i o' ho).2 hb'
    · intro i o' ho
      simp only [hget] at ho
      by_cases hi : i = n
      · simp only [if_pos hi]; exact Nat.le_trans h.base hg
      · rw [if_neg hi] at ho
        simp only [if_neg hi]; exact h.lo i o' ho
    · intro i j o' p ho hp he
      simp only [hget] at ho hp
      by_cases hi : i = n <;> by_cases hj : j = n
      · omega
      · rw [if_neg hj] at hp
        simp only [if_pos hi, if_neg hj] at he
        have := h.below hp
        simp only at this; omega
      · rw [if_neg hi] at ho
        simp only [if_pos hj, if_neg hi] at he
        have := h.below ho
        simp only at this; omega
      · rw [if_neg hi] at ho; rw [if_neg hj] at hp
        simp only [if_neg hi, if_neg hj] at he
        exact h.inj i j o' p ho hp he
    · intro i o' ho
      simp only [hget] at ho
      by_cases hi : i = n
      · rw [if_pos hi] at ho
        simp only [Option.some.injEq] at ho
        subst ho
        exact ⟨.inr hi, AObj.ok_mono hal' hl⟩
      · rw [if_neg hi] at ho
        exact ⟨.inl (h.al i o' ho).1, AObj.ok_mono hal' (h.al i o' ho).2⟩
    · rintro i (hi | hi)
      · exact Nat.lt_succ_of_lt (h.lt i hi)
      · simp only; omega
    · exact Nat.le_trans h.base hsz
    · intro b o' v hv
      obtain ⟨m1, m2⟩ := h.mem b o' v hv
      refine ⟨m1, ?_⟩
      have := h.base
      simp only at this m2 ⊢
      rw [cell_of_heap (hold b (by omega))]; exact m2
  · intro i
    simp only
    constructor
    · rintro (hi | hi)
      · exact .inl hi
      · exact .inr (by omega)
    · rintro (hi | hi)
      · exact .inl hi
      · exact .inr (by omega)
  · intro i hi
    simp only at hi ⊢
    rw [if_neg (by omega)]
  · intro i hi
    simp only [hget]
    rw [if_neg (fun x => hi ((hin i).2 x))]
  · intro i hi hn
    have := (hin i).1 hi
    simp only at hn; omega
  · intro i hi
    have := (hin i).1 hi
    simp only; omega
  · omega
  · intro b hb _
    exact hold b hb
  · intro i o' hi ho
    simp only [hget] at ho
    by_cases hin' : i = n
    · left; simp only [if_pos hin']; exact hg
    · rw [if_neg hin'] at ho
      have := h.lt i (h.al i o' ho).1
      simp only at this hi; omega

/-- Nothing but blocks that nobody looks at. -/
theorem step_below {E : Env} {B0 : Nat} {H : List Seg} {al : Nat → Prop} {n : Nat} {ρ : Rho} {w w' : World} (h : Rep E B0 ⟨H, al, n, ρ, w⟩) (hw : Below w.heap.size w w') : Step E B0 (In []) ⟨H, al, n, ρ, w⟩ ⟨H, al, n, ρ, w'⟩ where
  rep :=
    { obj := fun i o ho => by
        obtain ⟨blk, hx, hb⟩ := h.obj i o ho
        exact ⟨blk, (hw.block _ (h.below ho)).trans hx, hb⟩
      lo := h.lo
      inj := h.inj
      al := h.al
      lt := h.lt
      base := Nat.le_trans h.base hw.size
      mem := fun b o v hv => by
        obtain ⟨m1, m2⟩ := h.mem b o v hv
        refine ⟨m1, ?_⟩
        have := h.base
        simp only at this m2 ⊢
        rw [cell_of_heap (hw.block b (by omega))]; exact m2 }
  al_eq i := ⟨.inl, fun x => x.resolve_right (by simp only; omega)⟩
  n_le := Nat.le_refl _
  agree _ _ := rfl
  kept _ _ := rfl
  live i hi := absurd hi (not_in_nil i)
  ids i hi := absurd hi (not_in_nil i)
  size := hw.size
  frame b hb _ := hw.block b hb
  newb i o hi ho := by have := h.lt i (h.al i o ho).1; simp only at this hi; omega
  misc := ⟨hw.os, hw.tape, hw.output⟩

end Go.Proofs.Ytdpielghjaehbaa.Ev
