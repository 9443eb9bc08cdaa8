/- sense: a rule's place. -/
import Derived.Test.YtdpielghjaehbaaGreatSe
import Derived.Test.YtdpielghjaehbaaGreatDat
set_option linter.unusedSectionVars false
set_option linter.unusedSimpArgs false
set_option linter.unusedVariables false
namespace Go.Proofs.YtdpielghjaehbaaGreat.Ev

/-- The memory of a world. -/
def memOf (w0 : World) : Nat → Nat → Option Value := fun b o => w0.cell? ⟨b, o, none⟩

variable {w0 : World} {B0 : Nat}

theorem memCells_of {mem : Nat → Nat → Option Value} {b : Nat} : ∀ (cs : List Value) (o : Nat), (∀ j v, cs[j]? = some v → mem b (o + j) = some v) → memCells (senv mem) b o cs.length = some (cs.map lift)
  | [], o, h => rfl
  | v :: cs, o, h => by
    have h0 := h 0 v rfl
    have h1 := memCells_of (mem := mem) (b := b) cs (o + 1) (fun j u hj => by have := h (j + 1) u (by simpa using hj); rw [← this]; congr 1; omega)
    simp only [List.length_cons, memCells, List.map_cons, h1]
    rw [show (senv mem).mem b o = some v from by rw [senv_mem]; simpa using h0]

theorem find1_ok {mem : Nat → Nat → Option Value} {d : Seg} {n i : Nat} {nm name : List UInt8} {rest : List AC} (hr : rest.length = 6) (hg : cellsGood rest = true) (hi : get [d] i = some (.cells 9 [.str name])) (hin : i < n) :
    CallsA Tryz.prog (senv mem) B0 55 [.agg (.str nm :: rest), .c (.ptr i 0)] d n fun v d' n' => Keeps d n d' ∧ v = .c (.bool (sameBytes nm name)) := by
  refine callsA_code senv_ok none1_ok Tryz.func55 rfl (by decide) rfl rfl (by simp) fun hl ha Q hQ => ?_
  have hni : ¬ n = i := by omega
  have hg' : rest.all AC.isCell = true := hg
  simp +decide -implicitDefEqProofs only [stp,code_seq,evWanted,evOp,val,absV,evBin,evConv,evBuiltin,cmpInt,vals,partsOf,isAggD,cellsOf,isAggV,Nat.reduceEqDiff,Nat.reduceLT,Nat.reduceBEq,Nat.reduceBNe,reduceCtorEq,if_true,if_false,reduceIte,forall_const,IntKind.bits,IntKind.signed,eq_self_iff_true,finalOf,resultOf,cellsGood,AC.isCell,senv_mem,lift, Tryz.f55, ty3,ty4,ty5,ty9,ty21,ty22,ty33,ty34,ty23,ty36,ty40,ty73,ty71,ty75,ty80,ty77,ty90, none1, hr, hg', hi, hni, Nat.reduceAdd]
  refine hQ _ _ _ _ (.c (.bool (sameBytes nm name))) (by simp) ?_ ⟨(Keeps.refl _ _).cons (Nat.le_refl _), rfl⟩
  simp +decide -implicitDefEqProofs only [stp,code_seq,evWanted,evOp,val,absV,evBin,evConv,evBuiltin,cmpInt,vals,partsOf,isAggD,cellsOf,isAggV,Nat.reduceEqDiff,Nat.reduceLT,Nat.reduceBEq,Nat.reduceBNe,reduceCtorEq,if_true,if_false,reduceIte,forall_const,IntKind.bits,IntKind.signed,eq_self_iff_true,finalOf,resultOf,cellsGood,AC.isCell,senv_mem,lift, Tryz.f55]

/-- A rule's place; below 0: there is none. -/
def findIx (name : List UInt8) : List Ru → Nat → Int
  | [], _ => -1
  | r :: g, k => if sameBytes r.name name then (k : Int) else findIx name g (k + 1)

theorem lift_raw_slice (b cap len : Nat) : lift (.slice (some ⟨b, 0, none⟩) len cap) = .raw (.slice (some ⟨b, 0, none⟩) len cap) := rfl

theorem exAt_six {w : World} {B : Nat} : ∀ {e : Ex} {cs : List Value}, ExAt w B e cs → cs.length = 6 ∧ cellsGood (cs.map lift) = true
  | .mk kind text nums least most kids, cs, h => by
    simp only [ExAt] at h
    obtain ⟨nv, kv, rfl, h2, h3⟩ := h
    refine ⟨rfl, ?_⟩
    rcases h2 with ⟨rfl, _⟩ | ⟨b, cap, _, rfl, _⟩ <;> rcases h3 with ⟨rfl, _⟩ | ⟨b', cap', _, rfl, _⟩ <;> rfl

theorem index_ok {v0 : Value} {B : Nat} {g : List Ru} {d : Seg} {n i : Nat} {name : List UInt8} (hv : RulesAt w0 B v0 g) (hi : get [d] i = some (.cells 9 [.str name])) (hin : i < n) (hg : g.length < 4611686018427387904) :
    CallsA Tryz.prog (senv (memOf w0)) B0 54 [.c (lift v0), .c (.clo 55 i)] d n fun v d' n' => Keeps d n d' ∧ v = .c (.int .i64 (findIx name g 0)) := by
  refine callsA_code senv_ok none1_ok Tryz.func54 rfl (by decide) rfl rfl (by simp) fun hl ha Q hQ => ?_
  rcases hv with ⟨rfl, rfl⟩ | ⟨b, cap, _, rfl, hrs⟩
  · simp +decide -implicitDefEqProofs only [stp,code_seq,evWanted,evOp,val,absV,evBin,evConv,evBuiltin,cmpInt,vals,partsOf,isAggD,cellsOf,isAggV,Nat.reduceEqDiff,Nat.reduceLT,Nat.reduceBEq,Nat.reduceBNe,reduceCtorEq,if_true,if_false,reduceIte,forall_const,IntKind.bits,IntKind.signed,eq_self_iff_true,finalOf,resultOf,cellsGood,AC.isCell,senv_mem,lift, Tryz.f54, ty3,ty4,ty5,ty9,ty21,ty22,ty33,ty34,ty23,ty36,ty40,ty73,ty71,ty75,ty80,ty77,ty90, none1]
    refine code_loop senv_ok none1_ok (fun q s d' n' => d' = d ∧ s.nt = 19 ∧ s.get 7 = .c (.int .i64 0) ∧ s.get 8 = .c (.int .i64 0)) 0 ?_ ?_
    · refine ⟨rfl, rfl, ?_⟩
      simp +decide -implicitDefEqProofs only [stp,code_seq,evWanted,evOp,val,absV,evBin,evConv,evBuiltin,cmpInt,vals,partsOf,isAggD,cellsOf,isAggV,Nat.reduceEqDiff,Nat.reduceLT,Nat.reduceBEq,Nat.reduceBNe,reduceCtorEq,if_true,if_false,reduceIte,forall_const,IntKind.bits,IntKind.signed,eq_self_iff_true,finalOf,resultOf,cellsGood,AC.isCell,senv_mem,lift]
    · rintro q s _ n' ⟨rfl, hnt, g7, g8⟩ hl1 hs1 Q' hQ1 hQ2
      have hi : ¬ (0 : Int) < 0 := by omega
      simp +decide -implicitDefEqProofs only [stp,code_seq,evWanted,evOp,val,absV,evBin,evConv,evBuiltin,cmpInt,vals,partsOf,isAggD,cellsOf,isAggV,Nat.reduceEqDiff,Nat.reduceLT,Nat.reduceBEq,Nat.reduceBNe,reduceCtorEq,if_true,if_false,reduceIte,forall_const,IntKind.bits,IntKind.signed,eq_self_iff_true,finalOf,resultOf,cellsGood,AC.isCell,senv_mem,lift, ty3,ty4,ty5,ty9,ty21,ty22,ty33,ty34,ty23,ty36,ty40,ty73,ty71,ty75,ty80,ty77,ty90, hnt, g7, g8, hi]
      refine hQ2 _ _ _ _ (by simp) ?_
      simp +decide -implicitDefEqProofs only [stp,code_seq,evWanted,evOp,val,absV,evBin,evConv,evBuiltin,cmpInt,vals,partsOf,isAggD,cellsOf,isAggV,Nat.reduceEqDiff,Nat.reduceLT,Nat.reduceBEq,Nat.reduceBNe,reduceCtorEq,if_true,if_false,reduceIte,forall_const,IntKind.bits,IntKind.signed,eq_self_iff_true,finalOf,resultOf,cellsGood,AC.isCell,senv_mem,lift, Tryz.f54, ty3,ty4,ty5,ty9,ty21,ty22,ty33,ty34,ty23,ty36,ty40,ty73,ty71,ty75,ty80,ty77,ty90, hnt]
      refine hQ _ _ _ _ (.c (.int .i64 (-1))) (by simp) ?_ ⟨Keeps.refl _ _, rfl⟩
      simp +decide -implicitDefEqProofs only [stp,code_seq,evWanted,evOp,val,absV,evBin,evConv,evBuiltin,cmpInt,vals,partsOf,isAggD,cellsOf,isAggV,Nat.reduceEqDiff,Nat.reduceLT,Nat.reduceBEq,Nat.reduceBNe,reduceCtorEq,if_true,if_false,reduceIte,forall_const,IntKind.bits,IntKind.signed,eq_self_iff_true,finalOf,resultOf,cellsGood,AC.isCell,senv_mem,lift, Tryz.f54, hnt]
  · simp +decide -implicitDefEqProofs only [stp,code_seq,evWanted,evOp,val,absV,evBin,evConv,evBuiltin,cmpInt,vals,partsOf,isAggD,cellsOf,isAggV,Nat.reduceEqDiff,Nat.reduceLT,Nat.reduceBEq,Nat.reduceBNe,reduceCtorEq,if_true,if_false,reduceIte,forall_const,IntKind.bits,IntKind.signed,eq_self_iff_true,finalOf,resultOf,cellsGood,AC.isCell,senv_mem,lift, Tryz.f54, ty3,ty4,ty5,ty9,ty21,ty22,ty33,ty34,ty23,ty36,ty40,ty73,ty71,ty75,ty80,ty77,ty90, none1]
    refine code_loop senv_ok none1_ok (fun q s d' n' => s.nt = 19 ∧ Keeps d n d' ∧ n ≤ n' ∧ ∃ k : Nat, k + q = g.length ∧ s.get 0 = .c (.raw (.slice (some ⟨b, 0, none⟩) g.length cap)) ∧ s.get 1 = .c (.clo 55 i) ∧
      s.get 7 = .c (.int .i64 g.length) ∧ s.get 8 = .c (.int .i64 k) ∧ findIx name g 0 = findIx name (g.drop k) k) g.length ?_ ?_
    · refine ⟨rfl, Keeps.refl _ _, Nat.le_refl _, 0, by omega, ?_⟩
      simp +decide -implicitDefEqProofs only [stp,code_seq,evWanted,evOp,val,absV,evBin,evConv,evBuiltin,cmpInt,vals,partsOf,isAggD,cellsOf,isAggV,Nat.reduceEqDiff,Nat.reduceLT,Nat.reduceBEq,Nat.reduceBNe,reduceCtorEq,if_true,if_false,reduceIte,forall_const,IntKind.bits,IntKind.signed,eq_self_iff_true,finalOf,resultOf,cellsGood,AC.isCell,senv_mem,lift]
      exact ⟨rfl, rfl⟩
    · rintro q s d' n' ⟨hnt, hk, hn', k, hkq, g0, g1, g7, g8, hf⟩ hl1 hs1 Q' hQ1 hQ2
      by_cases hlt : (k : Int) < g.length
      · have hlt' : k < g.length := by omega
        have hgk : g[k]? = some g[k] := List.getElem?_eq_getElem hlt'
        have hk0 : (0 : Int) ≤ k := by omega
        obtain ⟨cs, c1, c2, c3⟩ := RuAt.get g b 0 k g[k] hrs hgk
        rw [Nat.zero_add] at c1 c2
        obtain ⟨h6, hgood⟩ := exAt_six c3
        have hmc : memCells (senv (memOf w0)) b (k * 7) 7 = some (.str g[k].name :: cs.map lift) := by
          have := memCells_of (mem := memOf w0) (b := b) (.string ⟨g[k].name.toArray⟩ :: cs) (k * 7) (fun j v hj => by
            cases j with
            | zero => simp only [List.getElem?_cons_zero, Option.some.injEq] at hj; subst hj; exact c1
            | succ j => have := c2 j v (by simpa using hj); simp only [memOf]; rw [← this]; congr 2; omega)
          simpa [h6, lift] using this
        have hi' := (hk i hin).trans hi
        have hfd : findIx name (g.drop k) k = if sameBytes g[k].name name then (k : Int) else findIx name (g.drop (k + 1)) (k + 1) := by
          rw [List.drop_eq_getElem_cons hlt']; rfl
        simp +decide -implicitDefEqProofs only [stp,code_seq,evWanted,evOp,val,absV,evBin,evConv,evBuiltin,cmpInt,vals,partsOf,isAggD,cellsOf,isAggV,Nat.reduceEqDiff,Nat.reduceLT,Nat.reduceBEq,Nat.reduceBNe,reduceCtorEq,if_true,if_false,reduceIte,forall_const,IntKind.bits,IntKind.signed,eq_self_iff_true,finalOf,resultOf,cellsGood,AC.isCell,senv_mem,lift, ty3,ty4,ty5,ty9,ty21,ty22,ty33,ty34,ty23,ty36,ty40,ty73,ty71,ty75,ty80,ty77,ty90, none1, hnt, g0, g1, g7, g8, hlt, hk0, Int.toNat_natCast, hmc]
        refine call_mono (find1_ok (mem := memOf w0) (B0 := B0) (by simp [h6]) hgood hi' (by omega)) fun v d2 n2 hR hl2 hle2 hok => ?_
        obtain ⟨hk2, hv⟩ := hR
        subst hv
        cases hsb : sameBytes g[k].name name with
        | true =>
          rw [hsb, if_pos rfl] at hfd
          simp +decide -implicitDefEqProofs only [stp,code_seq,evWanted,evOp,val,absV,evBin,evConv,evBuiltin,cmpInt,vals,partsOf,isAggD,cellsOf,isAggV,Nat.reduceEqDiff,Nat.reduceLT,Nat.reduceBEq,Nat.reduceBNe,reduceCtorEq,if_true,if_false,reduceIte,forall_const,IntKind.bits,IntKind.signed,eq_self_iff_true,finalOf,resultOf,cellsGood,AC.isCell,senv_mem,lift, ty3,ty4,ty5,ty9,ty21,ty22,ty33,ty34,ty23,ty36,ty40,ty73,ty71,ty75,ty80,ty77,ty90, hnt]
          refine hQ2 _ _ _ _ (by simp) ?_
          simp +decide -implicitDefEqProofs only [stp,code_seq,evWanted,evOp,val,absV,evBin,evConv,evBuiltin,cmpInt,vals,partsOf,isAggD,cellsOf,isAggV,Nat.reduceEqDiff,Nat.reduceLT,Nat.reduceBEq,Nat.reduceBNe,reduceCtorEq,if_true,if_false,reduceIte,forall_const,IntKind.bits,IntKind.signed,eq_self_iff_true,finalOf,resultOf,cellsGood,AC.isCell,senv_mem,lift]
          refine hQ _ _ _ _ (.c (.int .i64 (findIx name g 0))) (by simp) ?_ ⟨hk.trans hk2 hn', rfl⟩
          simp +decide -implicitDefEqProofs only [stp,code_seq,evWanted,evOp,val,absV,evBin,evConv,evBuiltin,cmpInt,vals,partsOf,isAggD,cellsOf,isAggV,Nat.reduceEqDiff,Nat.reduceLT,Nat.reduceBEq,Nat.reduceBNe,reduceCtorEq,if_true,if_false,reduceIte,forall_const,IntKind.bits,IntKind.signed,eq_self_iff_true,finalOf,resultOf,cellsGood,AC.isCell,senv_mem,lift, Tryz.f54, hnt]
          rw [hf, hfd]
        | false =>
          rw [hsb, if_neg (by simp)] at hfd
          simp +decide -implicitDefEqProofs only [stp,code_seq,evWanted,evOp,val,absV,evBin,evConv,evBuiltin,cmpInt,vals,partsOf,isAggD,cellsOf,isAggV,Nat.reduceEqDiff,Nat.reduceLT,Nat.reduceBEq,Nat.reduceBNe,reduceCtorEq,if_true,if_false,reduceIte,forall_const,IntKind.bits,IntKind.signed,eq_self_iff_true,finalOf,resultOf,cellsGood,AC.isCell,senv_mem,lift, ty3,ty4,ty5,ty9,ty21,ty22,ty33,ty34,ty23,ty36,ty40,ty73,ty71,ty75,ty80,ty77,ty90, hnt, g8]
          refine hQ1 (q - 1) _ _ _ (by omega) ⟨by simp only [nt_put, hnt], hk.trans hk2 hn', by omega, k + 1, by omega, ?_⟩
          simp +decide -implicitDefEqProofs only [stp,code_seq,evWanted,evOp,val,absV,evBin,evConv,evBuiltin,cmpInt,vals,partsOf,isAggD,cellsOf,isAggV,Nat.reduceEqDiff,Nat.reduceLT,Nat.reduceBEq,Nat.reduceBNe,reduceCtorEq,if_true,if_false,reduceIte,forall_const,IntKind.bits,IntKind.signed,eq_self_iff_true,finalOf,resultOf,cellsGood,AC.isCell,senv_mem,lift, hnt, g0, g1, g7]
          rw [wrap_succ (by omega)]
          exact ⟨rfl, by rw [hf, hfd]⟩
      · simp +decide -implicitDefEqProofs only [stp,code_seq,evWanted,evOp,val,absV,evBin,evConv,evBuiltin,cmpInt,vals,partsOf,isAggD,cellsOf,isAggV,Nat.reduceEqDiff,Nat.reduceLT,Nat.reduceBEq,Nat.reduceBNe,reduceCtorEq,if_true,if_false,reduceIte,forall_const,IntKind.bits,IntKind.signed,eq_self_iff_true,finalOf,resultOf,cellsGood,AC.isCell,senv_mem,lift, ty3,ty4,ty5,ty9,ty21,ty22,ty33,ty34,ty23,ty36,ty40,ty73,ty71,ty75,ty80,ty77,ty90, hnt, g7, g8, hlt]
        refine hQ2 _ _ _ _ (by simp) ?_
        simp +decide -implicitDefEqProofs only [stp,code_seq,evWanted,evOp,val,absV,evBin,evConv,evBuiltin,cmpInt,vals,partsOf,isAggD,cellsOf,isAggV,Nat.reduceEqDiff,Nat.reduceLT,Nat.reduceBEq,Nat.reduceBNe,reduceCtorEq,if_true,if_false,reduceIte,forall_const,IntKind.bits,IntKind.signed,eq_self_iff_true,finalOf,resultOf,cellsGood,AC.isCell,senv_mem,lift, Tryz.f54, ty3,ty4,ty5,ty9,ty21,ty22,ty33,ty34,ty23,ty36,ty40,ty73,ty71,ty75,ty80,ty77,ty90, hnt]
        refine hQ _ _ _ _ (.c (.int .i64 (findIx name g 0))) (by simp) ?_ ⟨hk, rfl⟩
        simp +decide -implicitDefEqProofs only [stp,code_seq,evWanted,evOp,val,absV,evBin,evConv,evBuiltin,cmpInt,vals,partsOf,isAggD,cellsOf,isAggV,Nat.reduceEqDiff,Nat.reduceLT,Nat.reduceBEq,Nat.reduceBNe,reduceCtorEq,if_true,if_false,reduceIte,forall_const,IntKind.bits,IntKind.signed,eq_self_iff_true,finalOf,resultOf,cellsGood,AC.isCell,senv_mem,lift, Tryz.f54, hnt]
        rw [hf, List.drop_eq_nil_of_le (by omega)]
        rfl

theorem find_ok {v0 : Value} {B : Nat} {g : List Ru} {d : Seg} {n : Nat} {name : List UInt8} (hv : RulesAt w0 B v0 g) (hg : g.length < 4611686018427387904) :
    CallsA Tryz.prog (senv (memOf w0)) B0 34 [.c (lift v0), .c (.str name)] d n fun v d' n' => Keeps d n d' ∧ v = .c (.int .i64 (findIx name g 0)) := by
  refine callsA_code senv_ok none1_ok Tryz.func34 rfl (by decide) rfl rfl (by simp) fun hl ha Q hQ => ?_
  simp +decide -implicitDefEqProofs only [stp,code_seq,evWanted,evOp,val,absV,evBin,evConv,evBuiltin,cmpInt,vals,partsOf,isAggD,cellsOf,isAggV,Nat.reduceEqDiff,Nat.reduceLT,Nat.reduceBEq,Nat.reduceBNe,reduceCtorEq,if_true,if_false,reduceIte,forall_const,IntKind.bits,IntKind.signed,eq_self_iff_true,finalOf,resultOf,cellsGood,AC.isCell,senv_mem,lift, Tryz.f34, ty3,ty4,ty5,ty9,ty21,ty22,ty33,ty34,ty23,ty36,ty40,ty73,ty71,ty75,ty80,ty77,ty90, none1]
  refine call_mono (index_ok (B0 := B0) hv (by rw [get_cons, if_pos rfl]) (by omega) hg) fun v d2 n2 hR hl2 hle2 hok => ?_
  obtain ⟨hk2, hv2⟩ := hR
  subst hv2
  simp +decide -implicitDefEqProofs only [stp,code_seq,evWanted,evOp,val,absV,evBin,evConv,evBuiltin,cmpInt,vals,partsOf,isAggD,cellsOf,isAggV,Nat.reduceEqDiff,Nat.reduceLT,Nat.reduceBEq,Nat.reduceBNe,reduceCtorEq,if_true,if_false,reduceIte,forall_const,IntKind.bits,IntKind.signed,eq_self_iff_true,finalOf,resultOf,cellsGood,AC.isCell,senv_mem,lift, Tryz.f34, ty3,ty4,ty5,ty9,ty21,ty22,ty33,ty34,ty23,ty36,ty40,ty73,ty71,ty75,ty80,ty77,ty90]
  refine hQ _ _ _ _ (.c (.int .i64 (findIx name g 0))) (by simp) ?_ ⟨((Keeps.refl _ _).cons (Nat.le_refl _)).trans hk2 (by omega), rfl⟩
  simp +decide -implicitDefEqProofs only [stp,code_seq,evWanted,evOp,val,absV,evBin,evConv,evBuiltin,cmpInt,vals,partsOf,isAggD,cellsOf,isAggV,Nat.reduceEqDiff,Nat.reduceLT,Nat.reduceBEq,Nat.reduceBNe,reduceCtorEq,if_true,if_false,reduceIte,forall_const,IntKind.bits,IntKind.signed,eq_self_iff_true,finalOf,resultOf,cellsGood,AC.isCell,senv_mem,lift, Tryz.f34]

end Go.Proofs.YtdpielghjaehbaaGreat.Ev
