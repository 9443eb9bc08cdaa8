/- A row's bytes. -/
import Derived.Test.YtdpielghjaehbaaLv
import Derived.Test.YtdpielghjaehbaaLw
import Derived.ProofKit
set_option linter.unusedSectionVars false
set_option linter.unusedSimpArgs false
set_option linter.unusedVariables false
namespace Go.Proofs.Ytdpielghjaehbaa.Ev
open Go.RowKit Go.ChangeShapes Go.WideShapes Go.ChangeAt

/-- Bytes in the memory. -/
def BytesAt (w : World) (v : Value) (l : List UInt8) : Prop :=
  (v = .slice none 0 0 ∧ l = []) ∨ ∃ a cap, v = .slice (some a) l.length cap ∧ l.length ≤ cap ∧ ∀ (i : Nat) b, l[i]? = some b → a.spot = none ∧ w.cell? ⟨a.block, a.off + i, none⟩ = some (.int .u8 (b.toNat : Int))

theorem bytesIn_of {w : World} {v : Value} {l : List UInt8} (h : BytesAt w v l) : BytesIn (memOf w) (lift v) l := by
  rcases h with ⟨rfl, h⟩ | ⟨a, cap, rfl, hc, h⟩
  · exact .inl ⟨rfl, h⟩
  · exact .inr ⟨a, cap, rfl, hc, h⟩

theorem bytesAt_open {w : World} {a : Addr} {len cap : Nat} {zs : List Int} (hl : len ≤ zs.length) (hcp : len ≤ cap) (hcell : ∀ i, i < zs.length → w.cell? (a.add i) = some (.int .u8 (zs.getD i 0))) (hw : ∀ n ∈ zs, (Lit.int .u8 n).wf = true) :
    BytesAt w (.slice (some a) len cap) ((zs.take len).map fun z => UInt8.ofNat z.toNat) := by
  refine .inr ⟨a, cap, by simp; omega, by simp; omega, fun i b hb => ?_⟩
  rw [List.getElem?_map] at hb
  obtain ⟨z, hz, rfl⟩ := Option.map_eq_some_iff.1 hb
  have hi : i < len := by
    rcases Nat.lt_or_ge i len with h | h
    · exact h
    · rw [List.getElem?_take_eq_none h] at hz; cases hz
  rw [List.getElem?_take_of_lt hi] at hz
  have hc := hcell i (by omega)
  have hzd : zs.getD i 0 = z := by simp [List.getD, hz]
  rw [hzd] at hc
  have hb := wf_u8 (hw z (List.mem_of_getElem? hz))
  have hn : ((UInt8.ofNat z.toNat).toNat : Int) = z := by
    have : (UInt8.ofNat z.toNat).toNat = z.toNat % 256 := by simp
    omega
  have h0 := hcell 0 (by omega)
  have a0 : a.add 0 = a := by simp [Addr.add]
  rw [a0] at h0
  have hs : a.spot = none := by
    cases hsp : a.spot with
    | none => rfl
    | some s =>
      unfold World.cell? at h0
      split at h0
      · rw [hsp] at h0; simp at h0
      · cases h0
  refine ⟨hs, ?_⟩
  rw [hn, ← hc]
  congr 1
  cases a
  simp only at hs
  subst hs
  simp only [Addr.add]
  split
  · rename_i h; subst h; rfl
  · rfl

end Go.Proofs.Ytdpielghjaehbaa.Ev
