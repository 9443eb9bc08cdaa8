/- The row's end: a call that leaves all that was there as it was. -/
import Derived.Test.YtdpielghjaehbaaGreatRows
import Derived.WalkKit
import Derived.ProofKit
import Derived.OpenShut
import Derived.Below
import Derived.Test.YtdpielghjaehbaaGreatLa
set_option linter.unusedSectionVars false
set_option linter.unusedSimpArgs false
set_option linter.unusedVariables false
namespace Go.Proofs.YtdpielghjaehbaaGreat.Ev
open Go.RowKit Go.ChangeShapes Go.WideShapes

variable {H : Type} {enc : TypeId × Value → H} {P : Program}

theorem kept_of_below {W W' : World} (h : Below W.heap.size W W') (may : MemPlace → Prop) : W.keptBut W' may := by
  refine ⟨h.os, h.output, fun i hi => ?_⟩
  rw [h.block i hi]
  cases W.heap[i]? with
  | none => rfl
  | some o =>
    cases o with
    | cells c t fr => exact ⟨rfl, rfl, rfl, fun _ _ => rfl⟩
    | map es clock => exact .inr ⟨rfl, rfl⟩
    | _ => rfl

theorem post_of_below {f : Func} {s : ChangeSpec} {apart fresh handsOn again : Bool} {W W' : World} {args : Array Value} {v : Value} {ds gs : List (DataW H)} {before pa pv : List MemPlace}
    (hW : DataW.Whole enc P f.params.toList s.vars apart W args.toList ds gs before)
    (hres : ∀ (b : Nat) (sp : Nat → Bool) (hd : Bool), DataW.TrodAll enc P W' b sp hd f.resultTypes.toList (v.resultList f.resultTypes.size) (s.fn H (ds ++ gs)).results [])
    (hargs : ∀ sp : Nat → Bool, (∀ p ∈ before, sp p.block = true) → DataW.TrodAll enc P W' 0 sp true f.params.toList args.toList (s.fn H (ds ++ gs)).args pa)
    (hvars : ∀ sp : Nat → Bool, (∀ p ∈ before, sp p.block = true) → DataW.TrodVars enc P W' sp s.vars (s.fn H (ds ++ gs)).vars pv)
    (hps : before = pa ++ pv) (hb : Below W.heap.size W W')
    (hok : ∀ (j : Nat) (t : TypeId) (r : Value), f.resultTypes[j]? = some t → (v.resultList f.resultTypes.size)[j]? = some r → Value.okWide P W' .any 0 t r) :
    s.post enc P f apart fresh handsOn again W args v W' := by
  have hold : ∀ p ∈ before, (fun b => decide (b < W.heap.size)) p.block = true := fun p hp => by simpa using hW.lt p hp
  have hlt := fun p hp => hW.lt p hp
  refine ⟨ds, gs, before, [], pa, pv, hW, hres _ _ _, hargs _ hold, hvars _ hold, kept_of_below hb _, fun _ => ?_⟩
  obtain ⟨_, _, _, _, _, hz, hn⟩ := hW
  refine ⟨hok, _, _, ([] ++ pa) ++ pv, ⟨[] ++ pa, pv, trodAll_append (hargs _ (fun _ _ => rfl)) (hres _ _ _), hvars _ (fun _ _ => rfl), rfl, ?_, ?_⟩, ?_⟩
  · intro b off hp
    have hp' : MemPlace.cell b off ∈ before := by rw [hps]; simpa using hp
    have := hlt _ hp'
    rw [World.frozen?_of_block (w := W) (w' := W') (a := ⟨b, off, none⟩) (hb.block b this)]
    exact hz b off hp'
  · intro ha
    have := hn ha
    rw [hps] at this
    simpa using this
  · intro p hp _
    rw [hps]
    simpa using hp

end Go.Proofs.YtdpielghjaehbaaGreat.Ev

/- A byte's bounds, from a row's literal. -/
set_option linter.unusedVariables false
namespace Go.Proofs.YtdpielghjaehbaaGreat.Ev

theorem wf_u8 {n : Int} (h : (Lit.int .u8 n).wf = true) : 0 ≤ n ∧ n < 256 := by
  simp only [Lit.wf, Bool.and_eq_true, decide_eq_true_eq] at h
  have h1 : IntKind.u8.min = 0 := rfl
  have h2 : IntKind.u8.max = 255 := rfl
  omega

end Go.Proofs.YtdpielghjaehbaaGreat.Ev

/- A row's bytes. -/
set_option linter.unusedSectionVars false
set_option linter.unusedSimpArgs false
set_option linter.unusedVariables false
namespace Go.Proofs.YtdpielghjaehbaaGreat.Ev
open Go.RowKit Go.ChangeShapes Go.WideShapes Go.ChangeAt

/-- Bytes in the memory. -/
def BytesAt (w : World) (v : Value) (l : List UInt8) : Prop :=
  (v = .slice none 0 0 ∧ l = []) ∨ ∃ a cap, v = .slice (some a) l.length cap ∧ l.length ≤ cap ∧ ∀ (i : Nat) b, l[i]? = some b → a.spot = none ∧ w.cell? ⟨a.block, a.off + i, none⟩ = some (.int .u8 (b.toNat : Int))

theorem bytesIn_of {w : World} {v : Value} {l : List UInt8} (h : BytesAt w v l) : BytesIn (memOf w) (lift v) l := by
  rcases h with ⟨rfl, h⟩ | ⟨a, cap, rfl, hc, h⟩
  · exact .inl ⟨rfl, h⟩
  · exact .inr ⟨a, cap, rfl, hc, h⟩

theorem bytesAt_open {w : World} {a : Addr} {len cap : Nat} {zs : List Int} (hl : len ≤ zs.length) (hcp : len ≤ cap) (hcell : ∀ i, i < zs.length → w.cell? (a.add i) = some (.int .u8 (zs.getD i 0))) (hw : ∀ n ∈ zs, (Lit.int .u8 n).wf = true) :
    BytesAt w (.slice (some a) len cap) ((zs.take len).map fun z => UInt8.ofNat z.toNat) := by
  refine .inr ⟨a, cap, by simp; omega, by simp; omega, fun i b hb => ?_⟩
  rw [List.getElem?_map] at hb
  obtain ⟨z, hz, rfl⟩ := Option.map_eq_some_iff.1 hb
  have hi : i < len := by
    rcases Nat.lt_or_ge i len with h | h
    · exact h
    · rw [List.getElem?_take_eq_none h] at hz; cases hz
  rw [List.getElem?_take_of_lt hi] at hz
  have hc := hcell i (by omega)
  have hzd : zs.getD i 0 = z := by simp [List.getD, hz]
  rw [hzd] at hc
  have hb := wf_u8 (hw z (List.mem_of_getElem? hz))
  have hn : ((UInt8.ofNat z.toNat).toNat : Int) = z := by
    have : (UInt8.ofNat z.toNat).toNat = z.toNat % 256 := by simp
    omega
  have h0 := hcell 0 (by omega)
  have a0 : a.add 0 = a := by simp [Addr.add]
  rw [a0] at h0
  have hs : a.spot = none := by
    cases hsp : a.spot with
    | none => rfl
    | some s =>
      unfold World.cell? at h0
      split at h0
      · rw [hsp] at h0; simp at h0
      · cases h0
  refine ⟨hs, ?_⟩
  rw [hn, ← hc]
  congr 1
  cases a
  simp only at hs
  subst hs
  simp only [Addr.add]
  split
  · rename_i h; subst h; rfl
  · rfl

end Go.Proofs.YtdpielghjaehbaaGreat.Ev
