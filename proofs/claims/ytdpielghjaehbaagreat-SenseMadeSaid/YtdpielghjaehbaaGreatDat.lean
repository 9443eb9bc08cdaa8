/- Grammars as data, and how they lie in memory. -/
import Derived.Below
set_option linter.unusedSectionVars false
set_option linter.unusedSimpArgs false
set_option linter.unusedVariables false
namespace Go.Proofs.YtdpielghjaehbaaGreat
open Go.RowKit

/-- An expression of a grammar. -/
inductive Ex where
  | mk (kind : Int) (text : List UInt8) (nums : List Int) (least most : Int) (kids : List Ex)

/-- A rule. -/
structure Ru where
  name : List UInt8
  ex : Ex

/-- A row of whole numbers, as a slice. -/
def IntsAt (w : World) (B : Nat) (v : Value) (l : List Int) : Prop :=
  (v = .slice none 0 0 ∧ l = []) ∨ ∃ b cap, b < B ∧ v = .slice (some ⟨b, 0, none⟩) l.length cap ∧ ∀ j n, l[j]? = some n → w.cell? ⟨b, j, none⟩ = some (.int .i64 n)

/-- Six cells, one behind the other. -/
def CellsAt (w : World) (b o : Nat) (cs : List Value) : Prop := ∀ j v, cs[j]? = some v → w.cell? ⟨b, o + j, none⟩ = some v

mutual
/-- Six cells are an expression. -/
def ExAt (w : World) (B : Nat) : Ex → List Value → Prop
  | .mk kind text nums least most kids, cs => ∃ nv kv, cs = [.int .i64 kind, .string ⟨text.toArray⟩, nv, .int .i64 least, .int .i64 most, kv] ∧ IntsAt w B nv nums ∧
      ((kv = .slice none 0 0 ∧ kids.length = 0) ∨ ∃ b cap, b < B ∧ kv = .slice (some ⟨b, 0, none⟩) kids.length cap ∧ KidsAt w B b 0 kids)
/-- Expressions one behind the other, from number i on. -/
def KidsAt (w : World) (B b i : Nat) : List Ex → Prop
  | [] => True
  | e :: es => (∃ cs, CellsAt w b (i * 6) cs ∧ ExAt w B e cs) ∧ KidsAt w B b (i + 1) es
end

/-- Rules one behind the other, from number i on. -/
def RuAt (w : World) (B b i : Nat) : List Ru → Prop
  | [] => True
  | r :: rs => (∃ cs, w.cell? ⟨b, i * 7, none⟩ = some (.string ⟨r.name.toArray⟩) ∧ CellsAt w b (i * 7 + 1) cs ∧ ExAt w B r.ex cs) ∧ RuAt w B b (i + 1) rs

/-- A slice of rules. -/
def RulesAt (w : World) (B : Nat) (v : Value) (g : List Ru) : Prop :=
  (v = .slice none 0 0 ∧ g = []) ∨ ∃ b cap, b < B ∧ v = .slice (some ⟨b, 0, none⟩) g.length cap ∧ RuAt w B b 0 g

/-! Below a block's number memory stays. -/

section
variable {w w' : World} {B B' : Nat}

theorem IntsAt.below {v : Value} {l : List Int} (h : IntsAt w B v l) (hb : Below B w w') : IntsAt w' B v l := by
  rcases h with h | ⟨b, cap, h1, h2, h4⟩
  · exact .inl h
  · exact .inr ⟨b, cap, h1, h2, fun j n hj => by rw [hb.cell (p := ⟨b, j, none⟩) h1]; exact h4 j n hj⟩

theorem IntsAt.mono {v : Value} {l : List Int} (h : IntsAt w B v l) (hB : B ≤ B') : IntsAt w B' v l := by
  rcases h with h | ⟨b, cap, h1, h2⟩
  · exact .inl h
  · exact .inr ⟨b, cap, Nat.lt_of_lt_of_le h1 hB, h2⟩

theorem CellsAt.below {b o : Nat} {cs : List Value} (h : CellsAt w b o cs) (hb : Below B w w') (hlt : b < B) : CellsAt w' b o cs :=
  fun j v hj => by rw [hb.cell (p := ⟨b, o + j, none⟩) hlt]; exact h j v hj

mutual
theorem ExAt.below (hb : Below B w w') : ∀ (e : Ex) (cs : List Value), ExAt w B e cs → ExAt w' B e cs
  | .mk kind text nums least most kids, cs, h => by
    simp only [ExAt] at h ⊢
    obtain ⟨nv, kv, h1, h2, h3⟩ := h
    refine ⟨nv, kv, h1, h2.below hb, ?_⟩
    rcases h3 with h3 | ⟨b, cap, h4, h5, h7⟩
    · exact .inl h3
    · exact .inr ⟨b, cap, h4, h5, KidsAt.below hb kids b 0 h4 h7⟩
theorem KidsAt.below (hb : Below B w w') : ∀ (l : List Ex) (b i : Nat), b < B → KidsAt w B b i l → KidsAt w' B b i l
  | [], b, i, hlt, h => trivial
  | e :: es, b, i, hlt, h => by
    simp only [KidsAt] at h ⊢
    obtain ⟨⟨cs, h1, h2⟩, h3⟩ := h
    exact ⟨⟨cs, h1.below hb hlt, ExAt.below hb e cs h2⟩, KidsAt.below hb es b (i + 1) hlt h3⟩
end

mutual
theorem ExAt.mono (hB : B ≤ B') : ∀ (e : Ex) (cs : List Value), ExAt w B e cs → ExAt w B' e cs
  | .mk kind text nums least most kids, cs, h => by
    simp only [ExAt] at h ⊢
    obtain ⟨nv, kv, h1, h2, h3⟩ := h
    refine ⟨nv, kv, h1, h2.mono hB, ?_⟩
    rcases h3 with h3 | ⟨b, cap, h4, h5, h7⟩
    · exact .inl h3
    · exact .inr ⟨b, cap, Nat.lt_of_lt_of_le h4 hB, h5, KidsAt.mono hB kids b 0 h7⟩
theorem KidsAt.mono (hB : B ≤ B') : ∀ (l : List Ex) (b i : Nat), KidsAt w B b i l → KidsAt w B' b i l
  | [], b, i, h => trivial
  | e :: es, b, i, h => by
    simp only [KidsAt] at h ⊢
    obtain ⟨⟨cs, h1, h2⟩, h3⟩ := h
    exact ⟨⟨cs, h1, ExAt.mono hB e cs h2⟩, KidsAt.mono hB es b (i + 1) h3⟩
end

theorem RuAt.below (hb : Below B w w') : ∀ (l : List Ru) (b i : Nat), b < B → RuAt w B b i l → RuAt w' B b i l
  | [], b, i, hlt, h => trivial
  | r :: rs, b, i, hlt, h => by
    simp only [RuAt] at h ⊢
    obtain ⟨⟨cs, h0, h1, h2⟩, h3⟩ := h
    exact ⟨⟨cs, by rw [hb.cell (p := ⟨b, i * 7, none⟩) hlt]; exact h0, h1.below hb hlt, ExAt.below hb r.ex cs h2⟩, RuAt.below hb rs b (i + 1) hlt h3⟩

theorem RuAt.mono (hB : B ≤ B') : ∀ (l : List Ru) (b i : Nat), RuAt w B b i l → RuAt w B' b i l
  | [], b, i, h => trivial
  | r :: rs, b, i, h => by
    simp only [RuAt] at h ⊢
    obtain ⟨⟨cs, h0, h1, h2⟩, h3⟩ := h
    exact ⟨⟨cs, h0, h1, ExAt.mono hB r.ex cs h2⟩, RuAt.mono hB rs b (i + 1) h3⟩

theorem RulesAt.below {v : Value} {g : List Ru} (h : RulesAt w B v g) (hb : Below B w w') : RulesAt w' B v g := by
  rcases h with h | ⟨b, cap, h1, h2, h4⟩
  · exact .inl h
  · exact .inr ⟨b, cap, h1, h2, RuAt.below hb g b 0 h1 h4⟩

theorem RulesAt.mono {v : Value} {g : List Ru} (h : RulesAt w B v g) (hB : B ≤ B') : RulesAt w B' v g := by
  rcases h with h | ⟨b, cap, h1, h2, h4⟩
  · exact .inl h
  · exact .inr ⟨b, cap, Nat.lt_of_lt_of_le h1 hB, h2, RuAt.mono hB g b 0 h4⟩

/-- The kid at a place. -/
theorem KidsAt.get : ∀ (l : List Ex) (b i j : Nat) (e : Ex), KidsAt w B b i l → l[j]? = some e → ∃ cs, CellsAt w b ((i + j) * 6) cs ∧ ExAt w B e cs
  | [], b, i, j, e, h, hj => by simp at hj
  | x :: xs, b, i, j, e, h, hj => by
    simp only [KidsAt] at h
    cases j with
    | zero =>
      simp only [List.getElem?_cons_zero, Option.some.injEq] at hj
      subst hj
      exact h.1
    | succ j =>
      have := KidsAt.get xs b (i + 1) j e h.2 (by simpa using hj)
      have e1 : i + 1 + j = i + (j + 1) := by omega
      rwa [e1] at this

theorem RuAt.get : ∀ (l : List Ru) (b i j : Nat) (r : Ru), RuAt w B b i l → l[j]? = some r → ∃ cs, w.cell? ⟨b, (i + j) * 7, none⟩ = some (.string ⟨r.name.toArray⟩) ∧ CellsAt w b ((i + j) * 7 + 1) cs ∧ ExAt w B r.ex cs
  | [], b, i, j, r, h, hj => by simp at hj
  | x :: xs, b, i, j, r, h, hj => by
    simp only [RuAt] at h
    cases j with
    | zero =>
      simp only [List.getElem?_cons_zero, Option.some.injEq] at hj
      subst hj
      exact h.1
    | succ j =>
      have := RuAt.get xs b (i + 1) j r h.2 (by simpa using hj)
      have e1 : i + 1 + j = i + (j + 1) := by omega
      rwa [e1] at this

end
end Go.Proofs.YtdpielghjaehbaaGreat
