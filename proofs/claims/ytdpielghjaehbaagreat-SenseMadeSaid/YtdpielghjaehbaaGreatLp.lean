/- regletlaw03.Pieces and regletlaw06.Letters: a short text. -/
import Derived.Test.YtdpielghjaehbaaGreatLb
import Derived.Test.YtdpielghjaehbaaGreatLa
set_option linter.unusedSectionVars false
set_option linter.unusedSimpArgs false
set_option linter.unusedVariables false
namespace Go.Proofs.YtdpielghjaehbaaGreat.Ev
open Go.RowKit

variable {mem : Nat → Nat → Option Value} {B0 : Nat}

def pcs7 : List AC := [.str [97], .str [98], .str [99], .str [97], .str [98], .str [65], .str [66]]

theorem pcs7_at : ∀ k, k < 7 → ∃ c, pcs7[k]? = some (.str [c])
  | 0, _ => ⟨_, rfl⟩
  | 1, _ => ⟨_, rfl⟩
  | 2, _ => ⟨_, rfl⟩
  | 3, _ => ⟨_, rfl⟩
  | 4, _ => ⟨_, rfl⟩
  | 5, _ => ⟨_, rfl⟩
  | 6, _ => ⟨_, rfl⟩
  | k + 7, h => by omega

set_option maxRecDepth 20000 in
set_option maxHeartbeats 4000000 in
theorem pieces_ok {x : AC} {l : List UInt8} (hx : BytesIn mem x l) {d : Seg} {n j : Nat} (hj : get [d] j = some (.cells 9 pcs7)) : CallsA Tryz.prog (lenv mem) B0 18 [.c x, .c (.sl j 7)] d n fun v d' n' => Keeps d n d' ∧ ∃ u : List UInt8, u.length ≤ 14 ∧ v = .c (.str u) := by
  refine callsA_code lenv_ok none1_ok Tryz.func18 rfl (by decide) rfl rfl (by simp) fun hl _ Q hQ => ?_
  have hjn := (hl j _ hj).1
  simp +decide -implicitDefEqProofs only [stp,code_seq,evWanted,evOp,val,absV,evBin,evConv,evBuiltin,cmpInt,vals,partsOf,isAggD,cellsOf,isAggV,Nat.reduceEqDiff,Nat.reduceLT,Nat.reduceBEq,Nat.reduceBNe,reduceCtorEq,if_true,if_false,reduceIte,forall_const,IntKind.bits,IntKind.signed,eq_self_iff_true,finalOf,resultOf,cellsGood,AC.isCell,senv_mem,lift, spliceAll,allFields,places,splice,List.take_zero,List.take_succ_cons,List.take_nil,List.drop_zero,List.drop_succ_cons,List.drop_nil,List.nil_append,List.append_nil,List.cons_append,List.all_cons,List.all_nil,Option.isSome_some,Nat.reduceAdd,Nat.reduceSub,Nat.reduceMul,Nat.reduceMod,Nat.reduceLeDiff,List.range,List.range.loop,List.map_cons,List.map_nil,pfind, Tryz.f18, lty3,lty4,lty5,lty9,lty22,lty33,lty25,lty34,lty23,lty36,lty40,lty98,lty96,lty93,lty95,lty54,lty38,lty31, lenv_mem, none1]
  refine code_loop lenv_ok none1_ok (fun q s d' n' => s.nt = 31 ∧ Keeps d n d' ∧ n ≤ n' ∧ ∃ (i : Nat) (u : List UInt8), i + q = 14 ∧ i ≤ l.length ∧ u.length ≤ i ∧ s.get 0 = .c x ∧ s.get 1 = .c (.sl j 7) ∧ s.get 5 = .c (.str u) ∧ s.get 6 = .c (.int .i64 i)) 14 ?_ ?_
  · refine ⟨by simp only [nt_put], Keeps.refl _ _, Nat.le_refl _, 0, [], by omega, Nat.zero_le _, by simp, ?_⟩
    simp +decide -implicitDefEqProofs only [stp,code_seq,evWanted,evOp,val,absV,evBin,evConv,evBuiltin,cmpInt,vals,partsOf,isAggD,cellsOf,isAggV,Nat.reduceEqDiff,Nat.reduceLT,Nat.reduceBEq,Nat.reduceBNe,reduceCtorEq,if_true,if_false,reduceIte,forall_const,IntKind.bits,IntKind.signed,eq_self_iff_true,finalOf,resultOf,cellsGood,AC.isCell,senv_mem,lift]
    rfl
  · rintro q s d2 n2 ⟨hnt, hk, hn2, i, u, hiq, hil, hui, g0, g1, g5, g6⟩ hl2 hs2 Q' hQ1 hQ2
    have hj2 := (hk j hjn).trans hj
    by_cases h1 : (i : Int) < l.length
    · rcases hx with ⟨_, rfl⟩ | ⟨a, cap, rfl, hcap, hcells⟩
      · simp at h1; omega
      · by_cases h2 : (i : Int) < 14
        · obtain ⟨b, off, sp⟩ := a
          have hil1 : i < l.length := by omega
          have hcl0 : l[i]? = some l[i] := List.getElem?_eq_getElem hil1
          obtain ⟨hsp, hmem⟩ := hcells i _ hcl0
          simp only at hsp hmem
          subst hsp
          generalize l[i] = c at hcl0 hmem
          have hc256 : c.toNat < 256 := c.toNat_lt
          have hi0 : (0 : Int) ≤ i := by omega
          have hwc : IntKind.i64.wrap ((c.toNat : Nat) : Int) = (c.toNat : Int) := wrap_id (by omega) (by omega)
          have htm : ((c.toNat : Nat) : Int).tmod ((7 : Nat) : Int) = ((c.toNat % 7 : Nat) : Int) := by rw [Int.tmod_eq_emod_of_nonneg (by omega)]; omega
          have hm7 : c.toNat % 7 < 7 := Nat.mod_lt _ (by omega)
          have hm0 : (0 : Int) ≤ ((c.toNat % 7 : Nat) : Int) := by omega
          have hm1 : ((c.toNat % 7 : Nat) : Int) < ((7 : Nat) : Int) := by omega
          obtain ⟨pc, hpc⟩ := pcs7_at _ hm7
          have hcl : u.length + 1 < 1000000 := by omega
          have h77 : (((7 : Nat) : Int) == 0) = false := rfl
          simp +decide -implicitDefEqProofs only [stp,code_seq,evWanted,evOp,val,absV,evBin,evConv,evBuiltin,cmpInt,vals,partsOf,isAggD,cellsOf,isAggV,Nat.reduceEqDiff,Nat.reduceLT,Nat.reduceBEq,Nat.reduceBNe,reduceCtorEq,if_true,if_false,reduceIte,forall_const,IntKind.bits,IntKind.signed,eq_self_iff_true,finalOf,resultOf,cellsGood,AC.isCell,senv_mem,lift, spliceAll,allFields,places,splice,List.take_zero,List.take_succ_cons,List.take_nil,List.drop_zero,List.drop_succ_cons,List.drop_nil,List.nil_append,List.append_nil,List.cons_append,List.all_cons,List.all_nil,Option.isSome_some,Nat.reduceAdd,Nat.reduceSub,Nat.reduceMul,Nat.reduceMod,Nat.reduceLeDiff,List.range,List.range.loop,List.map_cons,List.map_nil,pfind, lty3,lty4,lty5,lty9,lty22,lty33,lty25,lty34,lty23,lty36,lty40,lty98,lty96,lty93,lty95,lty54,lty38,lty31, lenv_mem, none1, hnt, g0, g1, g5, g6, h1, h2, hi0, Int.toNat_natCast, hmem, hwc, htm, hm0, hm1, hj2, hpc, hcl]
          refine hQ1 (q - 1) _ _ _ (by omega) ⟨by simp only [nt_put, hnt], hk, hn2, i + 1, u ++ [pc], by omega, by omega, by simp; omega, ?_⟩
          simp +decide -implicitDefEqProofs only [stp,code_seq,evWanted,evOp,val,absV,evBin,evConv,evBuiltin,cmpInt,vals,partsOf,isAggD,cellsOf,isAggV,Nat.reduceEqDiff,Nat.reduceLT,Nat.reduceBEq,Nat.reduceBNe,reduceCtorEq,if_true,if_false,reduceIte,forall_const,IntKind.bits,IntKind.signed,eq_self_iff_true,finalOf,resultOf,cellsGood,AC.isCell,senv_mem,lift, hnt, g0, g1]
          rw [wrap_succ (by omega)]
        · skip
          simp +decide -implicitDefEqProofs only [stp,code_seq,evWanted,evOp,val,absV,evBin,evConv,evBuiltin,cmpInt,vals,partsOf,isAggD,cellsOf,isAggV,Nat.reduceEqDiff,Nat.reduceLT,Nat.reduceBEq,Nat.reduceBNe,reduceCtorEq,if_true,if_false,reduceIte,forall_const,IntKind.bits,IntKind.signed,eq_self_iff_true,finalOf,resultOf,cellsGood,AC.isCell,senv_mem,lift, spliceAll,allFields,places,splice,List.take_zero,List.take_succ_cons,List.take_nil,List.drop_zero,List.drop_succ_cons,List.drop_nil,List.nil_append,List.append_nil,List.cons_append,List.all_cons,List.all_nil,Option.isSome_some,Nat.reduceAdd,Nat.reduceSub,Nat.reduceMul,Nat.reduceMod,Nat.reduceLeDiff,List.range,List.range.loop,List.map_cons,List.map_nil,pfind, lty3,lty4,lty5,lty9,lty22,lty33,lty25,lty34,lty23,lty36,lty40,lty98,lty96,lty93,lty95,lty54,lty38,lty31, lenv_mem, none1, hnt, g0, g5, g6, h1, h2]
          refine hQ2 _ _ _ _ (by simp) ?_
          simp +decide -implicitDefEqProofs only [stp,code_seq,evWanted,evOp,val,absV,evBin,evConv,evBuiltin,cmpInt,vals,partsOf,isAggD,cellsOf,isAggV,Nat.reduceEqDiff,Nat.reduceLT,Nat.reduceBEq,Nat.reduceBNe,reduceCtorEq,if_true,if_false,reduceIte,forall_const,IntKind.bits,IntKind.signed,eq_self_iff_true,finalOf,resultOf,cellsGood,AC.isCell,senv_mem,lift, spliceAll,allFields,places,splice,List.take_zero,List.take_succ_cons,List.take_nil,List.drop_zero,List.drop_succ_cons,List.drop_nil,List.nil_append,List.append_nil,List.cons_append,List.all_cons,List.all_nil,Option.isSome_some,Nat.reduceAdd,Nat.reduceSub,Nat.reduceMul,Nat.reduceMod,Nat.reduceLeDiff,List.range,List.range.loop,List.map_cons,List.map_nil,pfind, lty3,lty4,lty5,lty9,lty22,lty33,lty25,lty34,lty23,lty36,lty40,lty98,lty96,lty93,lty95,lty54,lty38,lty31, lenv_mem, none1, hnt, g0, g5, g6]
          refine hQ _ _ _ _ (.c (.str u)) (by simp) ?_ ⟨hk, u, by omega, rfl⟩
          simp +decide -implicitDefEqProofs only [stp,code_seq,evWanted,evOp,val,absV,evBin,evConv,evBuiltin,cmpInt,vals,partsOf,isAggD,cellsOf,isAggV,Nat.reduceEqDiff,Nat.reduceLT,Nat.reduceBEq,Nat.reduceBNe,reduceCtorEq,if_true,if_false,reduceIte,forall_const,IntKind.bits,IntKind.signed,eq_self_iff_true,finalOf,resultOf,cellsGood,AC.isCell,senv_mem,lift, Tryz.f18, hnt]
    · have h2 : True := trivial
      rcases hx with ⟨rfl, hln⟩ | ⟨a, cap, rfl, hcap, hcells⟩
      · have h2 : ¬ (i : Int) < 0 := by omega
        simp +decide -implicitDefEqProofs only [stp,code_seq,evWanted,evOp,val,absV,evBin,evConv,evBuiltin,cmpInt,vals,partsOf,isAggD,cellsOf,isAggV,Nat.reduceEqDiff,Nat.reduceLT,Nat.reduceBEq,Nat.reduceBNe,reduceCtorEq,if_true,if_false,reduceIte,forall_const,IntKind.bits,IntKind.signed,eq_self_iff_true,finalOf,resultOf,cellsGood,AC.isCell,senv_mem,lift, spliceAll,allFields,places,splice,List.take_zero,List.take_succ_cons,List.take_nil,List.drop_zero,List.drop_succ_cons,List.drop_nil,List.nil_append,List.append_nil,List.cons_append,List.all_cons,List.all_nil,Option.isSome_some,Nat.reduceAdd,Nat.reduceSub,Nat.reduceMul,Nat.reduceMod,Nat.reduceLeDiff,List.range,List.range.loop,List.map_cons,List.map_nil,pfind, lty3,lty4,lty5,lty9,lty22,lty33,lty25,lty34,lty23,lty36,lty40,lty98,lty96,lty93,lty95,lty54,lty38,lty31, lenv_mem, none1, hnt, g0, g5, g6, h1, h2]
        refine hQ2 _ _ _ _ (by simp) ?_
        simp +decide -implicitDefEqProofs only [stp,code_seq,evWanted,evOp,val,absV,evBin,evConv,evBuiltin,cmpInt,vals,partsOf,isAggD,cellsOf,isAggV,Nat.reduceEqDiff,Nat.reduceLT,Nat.reduceBEq,Nat.reduceBNe,reduceCtorEq,if_true,if_false,reduceIte,forall_const,IntKind.bits,IntKind.signed,eq_self_iff_true,finalOf,resultOf,cellsGood,AC.isCell,senv_mem,lift, spliceAll,allFields,places,splice,List.take_zero,List.take_succ_cons,List.take_nil,List.drop_zero,List.drop_succ_cons,List.drop_nil,List.nil_append,List.append_nil,List.cons_append,List.all_cons,List.all_nil,Option.isSome_some,Nat.reduceAdd,Nat.reduceSub,Nat.reduceMul,Nat.reduceMod,Nat.reduceLeDiff,List.range,List.range.loop,List.map_cons,List.map_nil,pfind, lty3,lty4,lty5,lty9,lty22,lty33,lty25,lty34,lty23,lty36,lty40,lty98,lty96,lty93,lty95,lty54,lty38,lty31, lenv_mem, none1, hnt, g0, g5, g6]
        refine hQ _ _ _ _ (.c (.str u)) (by simp) ?_ ⟨hk, u, by omega, rfl⟩
        simp +decide -implicitDefEqProofs only [stp,code_seq,evWanted,evOp,val,absV,evBin,evConv,evBuiltin,cmpInt,vals,partsOf,isAggD,cellsOf,isAggV,Nat.reduceEqDiff,Nat.reduceLT,Nat.reduceBEq,Nat.reduceBNe,reduceCtorEq,if_true,if_false,reduceIte,forall_const,IntKind.bits,IntKind.signed,eq_self_iff_true,finalOf,resultOf,cellsGood,AC.isCell,senv_mem,lift, Tryz.f18, hnt]
      · skip
        simp +decide -implicitDefEqProofs only [stp,code_seq,evWanted,evOp,val,absV,evBin,evConv,evBuiltin,cmpInt,vals,partsOf,isAggD,cellsOf,isAggV,Nat.reduceEqDiff,Nat.reduceLT,Nat.reduceBEq,Nat.reduceBNe,reduceCtorEq,if_true,if_false,reduceIte,forall_const,IntKind.bits,IntKind.signed,eq_self_iff_true,finalOf,resultOf,cellsGood,AC.isCell,senv_mem,lift, spliceAll,allFields,places,splice,List.take_zero,List.take_succ_cons,List.take_nil,List.drop_zero,List.drop_succ_cons,List.drop_nil,List.nil_append,List.append_nil,List.cons_append,List.all_cons,List.all_nil,Option.isSome_some,Nat.reduceAdd,Nat.reduceSub,Nat.reduceMul,Nat.reduceMod,Nat.reduceLeDiff,List.range,List.range.loop,List.map_cons,List.map_nil,pfind, lty3,lty4,lty5,lty9,lty22,lty33,lty25,lty34,lty23,lty36,lty40,lty98,lty96,lty93,lty95,lty54,lty38,lty31, lenv_mem, none1, hnt, g0, g5, g6, h1, h2]
        refine hQ2 _ _ _ _ (by simp) ?_
        simp +decide -implicitDefEqProofs only [stp,code_seq,evWanted,evOp,val,absV,evBin,evConv,evBuiltin,cmpInt,vals,partsOf,isAggD,cellsOf,isAggV,Nat.reduceEqDiff,Nat.reduceLT,Nat.reduceBEq,Nat.reduceBNe,reduceCtorEq,if_true,if_false,reduceIte,forall_const,IntKind.bits,IntKind.signed,eq_self_iff_true,finalOf,resultOf,cellsGood,AC.isCell,senv_mem,lift, spliceAll,allFields,places,splice,List.take_zero,List.take_succ_cons,List.take_nil,List.drop_zero,List.drop_succ_cons,List.drop_nil,List.nil_append,List.append_nil,List.cons_append,List.all_cons,List.all_nil,Option.isSome_some,Nat.reduceAdd,Nat.reduceSub,Nat.reduceMul,Nat.reduceMod,Nat.reduceLeDiff,List.range,List.range.loop,List.map_cons,List.map_nil,pfind, lty3,lty4,lty5,lty9,lty22,lty33,lty25,lty34,lty23,lty36,lty40,lty98,lty96,lty93,lty95,lty54,lty38,lty31, lenv_mem, none1, hnt, g0, g5, g6]
        refine hQ _ _ _ _ (.c (.str u)) (by simp) ?_ ⟨hk, u, by omega, rfl⟩
        simp +decide -implicitDefEqProofs only [stp,code_seq,evWanted,evOp,val,absV,evBin,evConv,evBuiltin,cmpInt,vals,partsOf,isAggD,cellsOf,isAggV,Nat.reduceEqDiff,Nat.reduceLT,Nat.reduceBEq,Nat.reduceBNe,reduceCtorEq,if_true,if_false,reduceIte,forall_const,IntKind.bits,IntKind.signed,eq_self_iff_true,finalOf,resultOf,cellsGood,AC.isCell,senv_mem,lift, Tryz.f18, hnt]

theorem letters_ok {x : AC} {l : List UInt8} (hx : BytesIn mem x l) (d : Seg) (n : Nat) : CallsA Tryz.prog (lenv mem) B0 10 [.c x] d n fun v d' n' => Keeps d n d' ∧ ∃ u : List UInt8, u.length ≤ 14 ∧ v = .c (.str u) := by
  refine callsA_code lenv_ok none1_ok Tryz.func10 rfl (by decide) rfl rfl (by simp) fun hl _ Q hQ => ?_
  simp +decide -implicitDefEqProofs only [stp,code_seq,evWanted,evOp,val,absV,evBin,evConv,evBuiltin,cmpInt,vals,partsOf,isAggD,cellsOf,isAggV,Nat.reduceEqDiff,Nat.reduceLT,Nat.reduceBEq,Nat.reduceBNe,reduceCtorEq,if_true,if_false,reduceIte,forall_const,IntKind.bits,IntKind.signed,eq_self_iff_true,finalOf,resultOf,cellsGood,AC.isCell,senv_mem,lift, spliceAll,allFields,places,splice,List.take_zero,List.take_succ_cons,List.take_nil,List.drop_zero,List.drop_succ_cons,List.drop_nil,List.nil_append,List.append_nil,List.cons_append,List.all_cons,List.all_nil,Option.isSome_some,Nat.reduceAdd,Nat.reduceSub,Nat.reduceMul,Nat.reduceMod,Nat.reduceLeDiff,List.range,List.range.loop,List.map_cons,List.map_nil,pfind, Tryz.f10, lty3,lty4,lty5,lty9,lty22,lty33,lty25,lty34,lty23,lty36,lty40,lty98,lty96,lty93,lty95,lty54,lty38,lty31, lenv_mem, none1]
  refine call_mono (pieces_ok (j := n) hx (by rw [get_cons, if_pos rfl]; rfl)) fun v d1 n1 hR hl1 hle1 hok1 => ?_
  obtain ⟨hk, u, hu, rfl⟩ := hR
  simp +decide -implicitDefEqProofs only [stp,code_seq,evWanted,evOp,val,absV,evBin,evConv,evBuiltin,cmpInt,vals,partsOf,isAggD,cellsOf,isAggV,Nat.reduceEqDiff,Nat.reduceLT,Nat.reduceBEq,Nat.reduceBNe,reduceCtorEq,if_true,if_false,reduceIte,forall_const,IntKind.bits,IntKind.signed,eq_self_iff_true,finalOf,resultOf,cellsGood,AC.isCell,senv_mem,lift, spliceAll,allFields,places,splice,List.take_zero,List.take_succ_cons,List.take_nil,List.drop_zero,List.drop_succ_cons,List.drop_nil,List.nil_append,List.append_nil,List.cons_append,List.all_cons,List.all_nil,Option.isSome_some,Nat.reduceAdd,Nat.reduceSub,Nat.reduceMul,Nat.reduceMod,Nat.reduceLeDiff,List.range,List.range.loop,List.map_cons,List.map_nil,pfind, lty3,lty4,lty5,lty9,lty22,lty33,lty25,lty34,lty23,lty36,lty40,lty98,lty96,lty93,lty95,lty54,lty38,lty31, lenv_mem, none1]
  refine hQ _ _ _ _ (.c (.str u)) (by simp) ?_ ⟨((Keeps.refl _ _).cons (Nat.le_refl _)).trans hk (by omega), u, hu, rfl⟩
  simp +decide -implicitDefEqProofs only [stp,code_seq,evWanted,evOp,val,absV,evBin,evConv,evBuiltin,cmpInt,vals,partsOf,isAggD,cellsOf,isAggV,Nat.reduceEqDiff,Nat.reduceLT,Nat.reduceBEq,Nat.reduceBNe,reduceCtorEq,if_true,if_false,reduceIte,forall_const,IntKind.bits,IntKind.signed,eq_self_iff_true,finalOf,resultOf,cellsGood,AC.isCell,senv_mem,lift, Tryz.f10]

end Go.Proofs.YtdpielghjaehbaaGreat.Ev
