/- regletlaw06.SenseRepeats: what a letter that repeats derives; the walk. -/
import Derived.Test.YtdpielghjaehbaaLb
set_option linter.unusedSectionVars false
set_option linter.unusedSimpArgs false
set_option linter.unusedVariables false
namespace Go.Proofs.Ytdpielghjaehbaa.Ev
open Go.RowKit

variable {mem : Nat → Nat → Option Value} {B0 : Nat}

def letterA (i : Nat) : UInt8 := if i % 2 = 0 then 97 else 65
def lettersA (n : Nat) : List UInt8 := (List.range n).map letterA

def repGram (least most : Int) : List Ru := [⟨[114], .mk 3 [] [] least most [.mk 5 [97] [] 0 0 []]⟩]

theorem lettersA_len (n : Nat) : (lettersA n).length = n := by simp [lettersA]

theorem lettersA_succ (n : Nat) : lettersA (n + 1) = lettersA n ++ [letterA n] := by simp [lettersA, List.range_succ]

theorem smallI_A (i : Nat) : smallI ((letterA i).toNat : Int) = 97 := by
  unfold letterA
  split <;> rfl

theorem fold_a {M : Kn} {many a x : Nat} : den (lettersA many ++ [98]) false M (.mk 5 [97] [] 0 0 []) a x ↔ (x = a + 1 ∧ a < many) := by
  rw [den_fold]
  have hlen : (lettersA many ++ [98]).length = many + 1 := by simp [lettersA_len]
  constructor
  · rintro ⟨h1, h2, h3⟩
    have h1' : x = a + 1 := h1
    subst h1'
    refine ⟨rfl, ?_⟩
    rw [hlen] at h2
    rcases Nat.lt_or_ge a many with h | h
    · exact h
    · exfalso
      have ha : a = many := by omega
      subst ha
      rw [List.take_of_length_le (by rw [hlen]; omega), List.drop_append_of_le_length (by rw [lettersA_len]; omega), List.drop_of_length_le (by rw [lettersA_len]; omega)] at h3
      revert h3; decide
  · rintro ⟨rfl, h⟩
    refine ⟨rfl, by rw [hlen]; omega, ?_⟩
    have hx : (lettersA many ++ [98])[a]? = some (letterA a) := by
      rw [List.getElem?_append_left (by rw [lettersA_len]; exact h)]
      simp [lettersA, h]
    have hd : List.drop a (List.take (a + 1) (lettersA many ++ [98])) = [letterA a] := by
      apply List.ext_getElem?
      intro i
      rw [List.getElem?_drop]
      cases i with
      | zero => rw [List.getElem?_take_of_lt (by omega)]; simpa using hx
      | succ i => rw [List.getElem?_take_eq_none (by omega)]; simp
    rw [hd]
    simp only [alikeB, smallI_A, Bool.and_true, beq_iff_eq]
    rfl

theorem pow_a {M : Kn} {many : Nat} : ∀ (n x : Nat), pow (den (lettersA many ++ [98]) false M (.mk 5 [97] [] 0 0 [])) n (fun y => y = 0) x ↔ (x = n ∧ n ≤ many)
  | 0, x => by simp [pow]
  | n + 1, x => by
    simp only [pow, img]
    constructor
    · rintro ⟨a, ha, hx⟩
      rw [pow_a n a] at ha
      rw [fold_a] at hx
      omega
    · rintro ⟨rfl, h⟩
      exact ⟨n, (pow_a n n).2 ⟨rfl, by omega⟩, fold_a.2 ⟨rfl, by omega⟩⟩

theorem rep_ends {least many : Nat} {most : Int} (p : Nat) : Der (repGram least most) (lettersA many ++ [98]) false [114] 0 p ↔ (least ≤ p ∧ (most = -1 ∨ (p : Int) ≤ most) ∧ p ≤ many) := by
  have hr : ruleOf [114] (repGram least most) = some (.mk 3 [] [] least most [.mk 5 [97] [] 0 0 []]) := rfl
  have key : ∀ M x, den (lettersA many ++ [98]) false M (.mk 3 [] [] least most [.mk 5 [97] [] 0 0 []]) 0 x ↔ (least ≤ x ∧ (most = -1 ∨ (x : Int) ≤ most) ∧ x ≤ many) := by
    intro M x
    rw [den_rep]
    constructor
    · rintro ⟨n, h1, h2, h3⟩
      rw [pow_a] at h3
      obtain ⟨rfl, h3⟩ := h3
      exact ⟨by omega, h2, h3⟩
    · rintro ⟨h1, h2, h3⟩
      exact ⟨x, by omega, h2, (pow_a x x).2 ⟨rfl, h3⟩⟩
  constructor
  · intro h
    refine h (fun nm a x => nm = [114] → a = 0 → (least ≤ x ∧ (most = -1 ∨ (x : Int) ≤ most) ∧ x ≤ many)) ?_ rfl rfl
    intro nm e a x hre hd h1 h2
    subst h1; subst h2
    rw [hr] at hre
    simp only [Option.some.injEq] at hre
    subst hre
    exact (key _ _).1 hd
  · intro h
    exact der_closed _ _ _ _ hr ((key _ _).2 h)

/-- These numbers, as the statement counts them. -/
def wantR (least i : Nat) : List Int := (List.range' least (i - least)).map fun (p : Nat) => (p : Int)

theorem wantR_succ {least i : Nat} (h : least ≤ i) : wantR least (i + 1) = wantR least i ++ [(i : Int)] := by
  unfold wantR
  have e : i + 1 - least = (i - least) + 1 := by omega
  rw [e, List.range'_concat, List.map_append]
  simp only [List.map_cons, List.map_nil, Nat.one_mul]
  congr 3
  omega

/-- The ends are the numbers from least up to (not with) top, where top - 1 is the last that may be. -/
theorem rep_list {least many top : Nat} {most : Int} {l : List Int} (h : EndsAre (repGram least most) (lettersA many ++ [98]) [114] false l) (hle : least ≤ top) (ht : ∀ p, least ≤ p → (p < top ↔ ((most = -1 ∨ (p : Int) ≤ most) ∧ p ≤ many))) : l = wantR least top := by
  refine endsAre_eq h (List.range' least (top - least)) List.pairwise_lt_range' fun p => ?_
  rw [rep_ends, List.mem_range'_1]
  constructor
  · rintro ⟨h1, h2⟩
    have := (ht p h1).2 h2
    omega
  · rintro ⟨h1, h2⟩
    exact ⟨h1, (ht p h1).1 (by omega)⟩

end Go.Proofs.Ytdpielghjaehbaa.Ev
